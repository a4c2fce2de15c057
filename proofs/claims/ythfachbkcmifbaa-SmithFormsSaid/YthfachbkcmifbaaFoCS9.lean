/- det; det; SmithForms, plainly; SmithForms; SmithForms, where a form is found; SmithForms, whole; Arguments opened: lists of numbers, tables, presentations. -/
import Derived.Test.YthfachbkcmifbaaFoCS8
import Derived.Maps.AppendAt
import Derived.Test.YthfachbkcmifbaaFoCS1
import Derived.ProofKit
import Derived.Deep.Slices
import Derived.Deep.Strs
namespace Go.Proofs
open Go.RowKit Go.Shelf Go.Proofs.Sm
theorem own37_any (w : World) (v : Value) (y : List Int) (h : IntsAt w v y) (hl : y.length ≤ 1000000) :
    Calls Try.prog 37 #[v] w fun e w' => ∃ A c, e = .returned (.slice A y.length c) ∧ OwnI w.heap.size w' (.slice A y.length c) y ∧ Below w.heap.size w w' := by
  obtain ⟨A0, c0, w', hr, hb, ho⟩ := run_copy Try.underlying25 h hl
  have HR := Lib.hid hr
  have HB := Lib.hid hb
  have HO := Lib.hid ho
  clear hr hb ho h
  go_enter Try.func37, Try.ntmps37
  go_wp2_with ((with_reducible refine wpList_sel 5 ?_); refine wpList_val rfl (r_app (.tmp 3) (.tmp 4) 25 rfl rfl rfl HR.out) ?_)
  go_ret
  exact ⟨_, _, rfl, HO.out, HB.out⟩
theorem run_append_nil2 {P : Program} (w : World) (base : Nat) (t ty e : TypeId) (i : TypeInfo) (ht : P.underlying t = some (.slice e)) (hi : P.info? e = some i) (c : Nat)
    (v : Value) (n : Nat) (xs : List Value) (hown : w.ownsRow base e 1 v n xs) : (Builtin.append_ #[t, t] ty #[v, .slice none 0 c]).run P w = .ok v w := by
  rcases hown.2 with ⟨rfl, rfl⟩ | ⟨g, cap, cur, rfl, _, _, hnc, _⟩
  · simp [Builtin.append_, run_underlying ht, sizeOf, typeInfo, hi, Builtin.lenOf, Builtin.firstCells]
  · simp [Builtin.append_, run_underlying ht, sizeOf, typeInfo, hi, Builtin.lenOf, Builtin.firstCells, hnc, storeCells]
/-- append(v, u...): u readable, v of the call's own -/
theorem run_append_ints (ty t : TypeId) (ht : Try.prog.underlying t = some (.slice 3)) (w : World) (base : Nat) (v u : Value) (x y : List Int) (h : OwnI base w v x) (hu : IntsAt w u y) (hx : x.length ≤ 1000000) (hy : y.length ≤ 1000000) (hb : base ≤ w.heap.size) :
    ∃ A' c' w', (Builtin.append_ #[t, t] ty #[v, u]).run Try.prog w = .ok (.slice A' (x ++ y).length c') w' ∧ OwnI base w' (.slice A' (x ++ y).length c') (x ++ y) ∧ w.grownBy w' v.ownBlock ∧
      ((Value.slice A' (x ++ y).length c').ownBlock = v.ownBlock ∨ ∃ r, (Value.slice A' (x ++ y).length c').ownBlock = some r ∧ w.heap.size ≤ r) := by
  obtain ⟨i3, hi3, hz3, hs3, hb3⟩ := info3p
  have hl : (x ++ y).length = x.length + y.length := List.length_append
  obtain ⟨A, c, rfl, hc1, hc2, hc⟩ := hu.open_
  cases A with
  | none =>
    have h0 : y = [] := by
      rcases Nat.eq_zero_or_pos y.length with h0 | h0
      · exact List.length_eq_zero_iff.1 h0
      · obtain ⟨b, off, hx, -⟩ := hc h0
        cases hx
    subst h0
    obtain ⟨A', c', e⟩ := owns_form h
    subst e
    rw [List.append_nil]
    exact ⟨A', c', w, run_append_nil2 w base t ty 3 i3 ht hi3 c _ _ _ h, h, World.grownBy.refl w _, .inl rfl⟩
  | some a =>
    have hcells : ∀ j u, (ints y)[j]? = some u → w.cell? (a.add j) = some u := by
      intro j u hju
      have hj : j < y.length := by
        have := (List.getElem?_eq_some_iff.1 hju).1
        simpa [ints] using this
      obtain ⟨b, off, e, hcc⟩ := hc (by omega)
      cases e
      rw [Addr.add_lit, hcc j hj, ← hju]
      simp [ints, hj, List.getD_eq_getElem?_getD]
    obtain ⟨v', w', hr, hown, hg, -, hw⟩ := run_append_own_at (P := Try.prog) w base t ty 3 i3 (.int .i64 0) 1 8 ht hi3 hz3 hs3 hb3 rfl (by omega) v x.length (ints x) h a y.length c (ints y) (by simp [ints]) hcells (fun u hu => by
      obtain ⟨z, -, rfl⟩ := List.mem_map.1 hu; rfl) (by unfold maxLen; omega) (by omega) hb
    obtain ⟨A', c', rfl⟩ := owns_form hown
    refine ⟨A', c', w', by rw [hr, hl], by unfold OwnI; rw [hl, show ints (x ++ y) = ints x ++ ints y by simp [ints]]; exact hown, hg, by rw [hl]; exact hw.imp id fun hh => ⟨_, hh, Nat.le_refl _⟩⟩
/-- the first m rows of what is left without row 0 and column j -/
def dropRow (y : List Int) (j : Nat) : List Int := y.take j ++ y.drop (j + 1)
def lessTo (a : Mat) (j m : Nat) : Mat := (List.range m).map fun i => dropRow (a.getD (i + 1) []) j
theorem lessTo_length (a : Mat) (j m : Nat) : (lessTo a j m).length = m := by simp [lessTo]
theorem lessTo_succ (a : Mat) (j m : Nat) : lessTo a j (m + 1) = lessTo a j m ++ [dropRow (a.getD (m + 1) []) j] := by simp [lessTo, List.range_succ]
theorem dropRow_length {y : List Int} {j k : Nat} (h : y.length = k + 1) (hj : j < k + 1) : (dropRow y j).length = k := by simp [dropRow]; omega
theorem dropRow_getD {y : List Int} {j : Nat} (h : j < y.length) (q : Nat) : (dropRow y j).getD q 0 = y.getD (skip j q) 0 := by
  unfold dropRow skip
  rw [List.getD_eq_getElem?_getD, List.getD_eq_getElem?_getD]
  split
  · rename_i hq
    rw [List.getElem?_append_left (by rw [List.length_take]; omega), List.getElem?_take, if_pos hq]
  · rw [List.getElem?_append_right (by rw [List.length_take]; omega), List.length_take, List.getElem?_drop]
    congr 2; omega
theorem lessTo_ent {a : Mat} {k j : Nat} (ha : Rect a (k + 1) (k + 1)) (hj : j < k + 1) {i : Nat} (hi : i < k) (q : Nat) : ent (lessTo a j k) i q = ent a (i + 1) (skip j q) := by
  have : (lessTo a j k).getD i [] = dropRow (a.getD (i + 1) []) j := by simp [lessTo, List.getD_eq_getElem?_getD, hi]
  unfold ent
  rw [this, dropRow_getD (by rw [rect_row ha (by omega)]; exact hj)]
theorem lessTo_rect {a : Mat} {k j : Nat} (ha : Rect a (k + 1) (k + 1)) (hj : j < k + 1) : Rect (lessTo a j k) k k := ⟨lessTo_length a j k, fun x hx => by
  obtain ⟨i, hi, rfl⟩ := List.mem_map.1 hx
  exact dropRow_length (rect_row ha (by have := List.mem_range.1 hi; omega)) hj⟩
theorem lessTo_fits {a : Mat} {k j : Nat} (ha : Rect a (k + 1) (k + 1)) (hf : ∀ y ∈ a, Fits y) : ∀ y ∈ lessTo a j k, Fits y := fun y hy => by
  obtain ⟨i, hi, rfl⟩ := List.mem_map.1 hy
  have hi' := List.mem_range.1 hi
  have hm : a.getD (i + 1) [] ∈ a := by
    rw [List.getD_eq_getElem?_getD, List.getElem?_eq_getElem (by rw [ha.1]; omega)]
    exact List.getElem_mem _
  intro x hx
  unfold dropRow at hx
  rcases List.mem_append.1 hx with h | h
  · exact hf _ hm x (List.mem_of_mem_take h)
  · exact hf _ hm x (List.mem_of_mem_drop h)
theorem lessTo_det {a : Mat} {k j : Nat} (ha : Rect a (k + 1) (k + 1)) (hj : j < k + 1) : detE k (ent (lessTo a j k)) = detE k fun i q => ent a (i + 1) (skip j q) :=
  det_congr fun _i q hi _ => lessTo_ent ha hj hi q
def detTo (k j : Nat) (f : Nat → Nat → Int) : Int := wr (sumN j fun j => sgn j * f 0 j * detE k fun i q => f (i + 1) (skip j q))
theorem detTo_succ (k j : Nat) (f : Nat → Nat → Int) : wr (detTo k j f + wr (wr (sgn j * f 0 j) * wr (detE k fun i q => f (i + 1) (skip j q)))) = detTo k (j + 1) f := wr_det_step k j f
theorem detTo_zero {k j : Nat} {f : Nat → Nat → Int} (h : f 0 j = 0) : detTo k (j + 1) f = detTo k j f := by
  unfold detTo
  rw [sumN_succ, h, Int.mul_zero, Int.zero_mul, Int.add_zero]
theorem sgn_succ (j : Nat) : sgn (j + 1) = - sgn j := by
  unfold sgn
  by_cases h : j % 2 = 0
  · rw [if_pos h, if_neg (by omega)]
  · rw [if_neg h, if_pos (by omega)]; rfl
theorem sgn_bd (j : Nat) : -1 ≤ sgn j ∧ sgn j ≤ 1 := by unfold sgn; split <;> omega
theorem ints_sliced {w : World} {A : Option Addr} {c k h : Nat} {l : List Int} (hI : IntsAt w (.slice A l.length c) l) (hk : k ≤ h) (hh : h ≤ l.length) : IntsAt w (sliced A k h c 1) ((l.take h).drop k) := by
  obtain ⟨⟨A0, n, cap, e, h1, h2, h3, h4⟩, hf⟩ := hI
  obtain ⟨rfl, rfl, rfl⟩ := Value.slice.inj e
  refine ⟨⟨_, _, _, rfl, by simp [ints]; omega, by omega, by omega, fun hp => ?_⟩, fun y hy => hf y (List.mem_of_mem_take (List.mem_of_mem_drop hy))⟩
  obtain ⟨b, off, rfl, hr⟩ := h4 (by omega)
  refine ⟨b, off + k, ?_, fun j v hj => ?_⟩
  · rw [if_neg (by omega), Nat.mul_one]
    exact congrArg some (Addr.add_mid b off k)
  · have hj' : (ints l)[k + j]? = some v := by
      simp only [ints, List.getElem?_map, List.getElem?_drop, List.getElem?_take] at hj ⊢
      split at hj
      · exact hj
      · simp at hj
    have := hr (k + j) v hj'
    rwa [show off + k + j = off + (k + j) by omega]
/-- a row of less joins -/
theorem less_push {w wr : World} {v : Value} {bl cs : Nat → Nat} {a : Mat} {j m k : Nat} (hM : MatM w.heap.size wr v bl cs (lessTo a j m)) (hB : Below w.heap.size w wr) {y : List Int} (hy : y = a.getD (m + 1) []) (hlen : y.length = k + 1) (hj : j < k + 1) (hm : m ≤ 1000) (hk : 1 ≤ k) (hk2 : k ≤ 1000)
    {w1 : World} {A1 : Option Addr} {c1 : Nat} (ho : OwnI wr.heap.size w1 (.slice A1 j c1) (y.take j)) (hb1 : Below wr.heap.size wr w1) {u : Value} (hu : IntsAt w1 u (y.drop (j + 1))) :
    ∃ A2 c2 w2, (Builtin.append_ #[25, 25] 25 #[.slice A1 j c1, u]).run Try.prog w1 = .ok (.slice A2 k c2) w2 ∧ Below w.heap.size w w2 ∧
      ∃ A3 c3 w3, (Builtin.append_ #[22, 22] 22 #[v, .slice (some ⟨w2.heap.size, 0, none⟩) 1 1]).run Try.prog (w2.alloc (.cells #[.slice A2 k c2] 25)) = .ok (.slice A3 (m + 1) c3) w3 ∧
        (∃ bl cs, MatM w.heap.size w3 (.slice A3 (m + 1) c3) bl cs (lessTo a j (m + 1))) ∧ Below w.heap.size w w3 := by
  obtain ⟨A2, c2, w2, hr2, ho2, hg2, -⟩ := run_append_ints 25 25 Try.underlying25 w1 wr.heap.size _ _ _ _ ho hu (by rw [List.length_take]; omega) (by rw [List.length_drop]; omega) hb1.size
  have hl2 : (y.take j ++ y.drop (j + 1)).length = k := dropRow_length hlen hj
  rw [hl2] at hr2
  have hB2 : Below wr.heap.size wr w2 := hb1.grown hg2 hb1.size fun r hr => (owns_block ho r hr).1
  obtain ⟨g, rfl, hx, hge, hc1, hc2⟩ := owns_xs ho2 (by rw [hl2]; exact hk)
  rw [hl2] at hc1
  have hMk := hM.keep hB2
  obtain ⟨A3, c3, w3, hr3, ⟨bl3, cs3, hm3⟩, hg3⟩ := hMk.push (Nat.le_trans hB.size hB2.size) hx (Nat.le_trans hB.size hge) (by rw [hl2]; exact hc1) hc2 (fun i hi e => by have := hM.lt.1 i hi; omega) (by rw [lessTo_length]; omega)
  rw [lessTo_length, hl2] at hr3
  rw [lessTo_length] at hm3
  refine ⟨_, c2, w2, hr2, hB.trans (hB2.mono hB.size), A3, c3, w3, hr3, ⟨bl3, cs3, ?_⟩, (hB.trans (hB2.mono hB.size)).grown hg3 (Nat.le_trans hB.size hB2.size) fun r hr => (owns_block hMk.out r hr).1⟩
  rw [lessTo_succ, ← hy]
  exact hm3
end Go.Proofs
namespace Go.Proofs
open Go.RowKit Go.Shelf Go.Proofs.Sm
def DetPost (z : Int) (w : World) (e : Ending) (w' : World) : Prop := e = .returned (.int .i64 z) ∧ Below w.heap.size w w'
set_option maxRecDepth 100000 in
theorem det23_zero (w : World) (v : Value) (a : Mat) (h : Tab w v a) (ha : Rect a 0 0) : Calls Try.prog 23 #[v] w (DetPost (wr (detE 0 (ent a))) w) := by
  obtain ⟨A0, c0, rfl, h1, h2, hc⟩ := h.open_
  rw [ha.1]
  have hw : wr (detE 0 (ent a)) = 1 := by rw [det0]; decide
  rw [hw]
  clear hc h h1 h2 ha hw
  go_enter Try.func23, Try.ntmps23
  go_wp2_with fail
  go_ret
  exact ⟨rfl, Below.refl _ _⟩
set_option maxRecDepth 100000 in
set_option maxHeartbeats 2000000 in
theorem det23_step (k K : Nat) (hK : K = k + 1) (hk : k ≤ 100) (IH : ∀ (w : World) (v : Value) (a : Mat), Tab w v a → Rect a k k → Calls Try.prog 23 #[v] w (DetPost (wr (detE k (ent a))) w)) (w : World) (v : Value) (a : Mat) (h : Tab w v a) (ha : Rect a (k + 1) (k + 1)) : Calls Try.prog 23 #[v] w (DetPost (wr (detE (k + 1) (ent a))) w) := by
  obtain ⟨A0, c0, rfl, h1, h2, hc⟩ := h.open_
  have HA := Lib.hid ha
  have hal0 : a.length = K := by rw [ha.1, hK]
  rw [hal0] at h1 hc ⊢
  have HC := Lib.hid hc
  have HIH := Lib.hid IH
  have HE : Hid (wr (detE (k + 1) (ent a)) = detTo k (k + 1) (ent a)) := Lib.hid rfl
  generalize wr (detE (k + 1) (ent a)) = ZR at *
  have HK := Lib.hid hK
  have hKb : (K : Int) ≤ 101 := by omega
  have hK1 : (1 : Int) ≤ (K : Int) := by omega
  have hK2 : ((K : Int) == 0) = false := by rw [beq_eq_false_iff_ne]; omega
  have hK3 : 0 < K := by omega
  have HF : Hid (∀ y ∈ a, Fits y) := Lib.hid fun y hy => by
    obtain ⟨i, hi, rfl⟩ := List.getElem_of_mem hy
    obtain ⟨b, o, -, hcc⟩ := hc hK3
    obtain ⟨u, -, hI⟩ := hcc i (by rw [← hal0]; exact hi)
    have := hI.2
    rwa [List.getD_eq_getElem?_getD, List.getElem?_eq_getElem hi] at this
  clear h hc IH ha hal0 hK
  go_enter Try.func23, Try.ntmps23
  go_wp2_with fail
  go_loopw [3, 4, 5] (fun zs zg z wr => ∃ (j : Nat), j ≤ K ∧ z = .int .i64 j ∧ zs = .int .i64 (detTo k j (ent a)) ∧ zg = .int .i64 (sgn j) ∧ Hid (Below w.heap.size w wr)) (fun _ _ z _ => K - (intOf z).toNat)
  case atStart => exact ⟨0, by omega, rfl, by rfl, by rfl, Lib.hid (Below.refl _ _)⟩
  case round =>
    obtain ⟨j, hj, rfl, rfl, rfl, HB⟩ := hrel
    have hj0 : (0 : Int) ≤ (j : Int) := Int.natCast_nonneg _
    by_cases hlt : j < K
    · have hlt' : (j : Int) < (K : Int) := by omega
      have hj1 : (0 : Int) ≤ (j : Int) + 1 := by omega
      have hj2 : (j : Int) + 1 ≤ (K : Int) := by omega
      go_wp2_with fail
      go_loopw [6, 7] (fun zl z wr => ∃ (m i : Nat) (A : Option Addr) (c : Nat), 1 ≤ i ∧ i ≤ K ∧ Hid (i = m + 1) ∧ z = .int .i64 (i : Int) ∧ zl = .slice A m c ∧ Hid ((∃ bl cs, MatM w.heap.size wr (.slice A m c) bl cs (lessTo a j m)) ∧ Below w.heap.size w wr)) (fun _ z _ => K - (intOf z).toNat)
      case atStart => exact ⟨0, 1, none, 0, by omega, by omega, Lib.hid rfl, rfl, rfl, Lib.hid ⟨⟨_, _, MatM.nil _ _⟩, HB.out⟩⟩
      case round =>
        obtain ⟨m, i, A, c, hi1, hi2, HM, rfl, rfl, HQ⟩ := hrel
        have hi0 : (0 : Int) ≤ (i : Int) := Int.natCast_nonneg _
        by_cases hml : i < K
        · have hml' : (i : Int) < (K : Int) := by omega
          obtain ⟨⟨bl, cs, hM⟩, hB⟩ := HQ.out
          obtain ⟨bo, oo, rfl, hcells⟩ := HC.out (by omega)
          obtain ⟨u, hu, hI⟩ := hcells i hml
          obtain ⟨A1, c1, rfl, e1, e2, e3⟩ := hI.open_
          have hal : (a.getD i []).length = K := by rw [HK.out]; exact rect_row HA.out (by rw [← HK.out]; exact hml)
          obtain ⟨y, hy⟩ : ∃ y, y = a.getD i [] := ⟨_, rfl⟩
          rw [← hy] at hal hu hI e1 e3
          have hI2 := kept_ints.below hI hB
          have hu' := (hB.cell (p := ⟨bo, oo + i, none⟩) (World.block_lt_of_cell? w _ hu)).trans hu
          rw [hal] at hu' e1
          have hs1 := ints_sliced (k := 0) (h := j) hI2 (by omega) (by omega)
          have hs2 := ints_sliced (k := j + 1) (h := y.length) hI2 (by omega) (by omega)
          obtain ⟨b1, o1, rfl, -⟩ := e3 (by omega)
          rw [List.drop_zero] at hs1
          rw [List.take_length, hal] at hs2
          have HOWN : Hid (∀ W, Below wr.heap.size wr W → Calls Try.prog 37 #[sliced (some ⟨b1, o1, none⟩) 0 j c1 1] W fun e w' => ∃ A1 c1', e = .returned (.slice A1 j c1') ∧ Hid (Below w.heap.size w w') ∧
            ∃ A2 c2 w2, (Builtin.append_ #[25, 25] 25 #[.slice A1 j c1', sliced (some ⟨b1, o1, none⟩) (j + 1) K c1 1]).run Try.prog w' = .ok (.slice A2 k c2) w2 ∧ Hid (Below w.heap.size w w2) ∧
              ∃ A3 c3 w3, (Builtin.append_ #[22, 22] 22 #[.slice A m c, .slice (some ⟨w2.heap.size, 0, none⟩) 1 1]).run Try.prog (w2.alloc (.cells #[.slice A2 k c2] 25)) = .ok (.slice A3 (m + 1) c3) w3 ∧
                Hid ((∃ bl cs, MatM w.heap.size w3 (.slice A3 (m + 1) c3) bl cs (lessTo a j (m + 1))) ∧ Below w.heap.size w w3)) := Lib.hid fun W hbW => by
            have hc := own37_any W _ _ (kept_ints.below hs1 hbW) (by rw [List.length_take]; omega)
            refine hc.mono fun e w' ⟨Ax, cx, he, ho, hb⟩ => ?_
            rw [List.length_take, show min j y.length = j by omega] at he ho
            have hb2 := hbW.trans (hb.mono hbW.size)
            have hp := less_push (k := k) (y := y) hM hB (by rw [hy, HM.out]) (by rw [hal, HK.out]) (by rw [← HK.out]; exact hlt) (by have := HM.out; omega) (by have := HM.out; have := HK.out; omega) (by omega) (owns_base ho hbW.size) hb2 (kept_ints.below hs2 hb2)
            obtain ⟨A2, c2, w2, p1, p0, A3, c3, w3, p2, p3⟩ := hp
            exact ⟨Ax, cx, he, Lib.hid (hB.trans (hb2.mono hB.size)), A2, c2, w2, p1, Lib.hid p0, A3, c3, w3, p2, Lib.hid p3⟩
          have HCELL : Hid (∀ W, Below w.heap.size w W → W.cell? ⟨bo, oo + i, none⟩ = some (.slice (some ⟨b1, o1, none⟩) K c1)) := Lib.hid fun W hW => by
            rw [hal] at hu
            exact (hW.cell (p := ⟨bo, oo + i, none⟩) (World.block_lt_of_cell? w _ hu)).trans hu
          have hu2 : wr.cell? ⟨bo, oo + i, none⟩ = some (.slice (some ⟨b1, o1, none⟩) K c1) := hu'
          clear hs1 hs2 hI2 hI hcells hM hB hu hu' e3 hal hy
          have hc1 : (K : Int) ≤ (c1 : Int) := by omega
          have hc2 : (j : Int) ≤ (c1 : Int) := by omega
          have hw1 : IntKind.i64.wrap ((j : Int) + 1) = (j : Int) + 1 := (wr_wrap _).trans (wr_in (by omega))
          have hsl : sliced (some ⟨b1, o1, none⟩) 0 j c1 1 = .slice (some ⟨b1, o1, none⟩) j c1 := by
            unfold sliced; rw [if_neg (by omega)]; rfl
          rw [hsl] at HOWN
          clear hsl
          obtain ⟨u2, hu2v⟩ : ∃ u2, u2 = sliced (some ⟨b1, o1, none⟩) (j + 1) K c1 1 := ⟨_, rfl⟩
          rw [← hu2v] at HOWN
          by_cases hcj : c1 = j + 1
          · have hv : u2 = .slice (some ⟨b1, o1, none⟩) 0 0 := by rw [hu2v]; unfold sliced; rw [if_pos hcj, hcj, Nat.sub_self, show K - (j + 1) = 0 by omega]
            subst hv
            subst hcj
            have hc3 : (j : Int) ≤ (j : Int) + 1 := by omega
            clear hu2v hc2
            go_wp2_with fail
            go_region_held3 (fun W => W.cell? ⟨bo, oo + i, none⟩ = some (.slice (some ⟨b1, o1, none⟩) K (j + 1))) (first | (with_reducible exact HS1.out) | (with_reducible exact HS2.out) | (with_reducible exact HS3.out) | (with_reducible exact HS4.out) | go_keep) 
              (first
                | (go_at_call 37; (refine (HOWN.out _ (below_drew (Below.refl _ _))).mono ?_); rintro e w1 ⟨A1, c1', rfl, HB1, A2, c2', w2, hr2, HB2, A3, c3, w3, hr3, HN⟩; have HS1 := Lib.hid (HCELL.out _ HB1.out); have HS2 := Lib.hid (HCELL.out _ HB2.out); have HS3 := Lib.hid (HCELL.out _ HN.out.2); have HS4 := Lib.hid (HCELL.out _ (HB2.out.alloc HB2.out.size (.cells #[.slice A2 k c2'] 25))); have HR2 := Lib.hid hr2; have HR3 := Lib.hid hr3; clear hr2 hr3)
                | (refine step_sel 38 ?_; refine step_val rfl (r_app (.tmp 30) (.tmp 37) 25 rfl rfl rfl HR2.out) ?_)
                | (refine step_sel 40 ?_; refine step_val rfl (r_app (.tmp 23) (.tmp 39) 22 rfl rfl rfl HR3.out) ?_))
            go_wp2_with fail
            go_roundw
            case rel => exact ⟨m + 1, i + 1, A3, c3, by omega, by omega, Lib.hid (by rw [HM.out]), by go_num, rfl, Lib.hid HN.out⟩
            case measure => simp [intOf]; omega
          · have hv : u2 = .slice (some ⟨b1, o1 + (j + 1), none⟩) (K - (j + 1)) (c1 - (j + 1)) := by rw [hu2v]; unfold sliced; rw [if_neg hcj, Nat.mul_one]; exact congrArg (fun a => Value.slice (some a) (K - (j + 1)) (c1 - (j + 1))) (Addr.add_mid b1 o1 (j + 1))
            subst hv
            clear hu2v
            go_wp2_with fail
            go_region_held3 (fun W => W.cell? ⟨bo, oo + i, none⟩ = some (.slice (some ⟨b1, o1, none⟩) K c1)) (first | (with_reducible exact HS1.out) | (with_reducible exact HS2.out) | (with_reducible exact HS3.out) | (with_reducible exact HS4.out) | go_keep) 
              (first
                | (go_at_call 37; (refine (HOWN.out _ (below_drew (Below.refl _ _))).mono ?_); rintro e w1 ⟨A1, c1', rfl, HB1, A2, c2', w2, hr2, HB2, A3, c3, w3, hr3, HN⟩; have HS1 := Lib.hid (HCELL.out _ HB1.out); have HS2 := Lib.hid (HCELL.out _ HB2.out); have HS3 := Lib.hid (HCELL.out _ HN.out.2); have HS4 := Lib.hid (HCELL.out _ (HB2.out.alloc HB2.out.size (.cells #[.slice A2 k c2'] 25))); have HR2 := Lib.hid hr2; have HR3 := Lib.hid hr3; clear hr2 hr3)
                | (refine step_sel 38 ?_; refine step_val rfl (r_app (.tmp 30) (.tmp 37) 25 rfl rfl rfl HR2.out) ?_)
                | (refine step_sel 40 ?_; refine step_val rfl (r_app (.tmp 23) (.tmp 39) 22 rfl rfl rfl HR3.out) ?_))
            go_wp2_with fail
            go_roundw
            case rel => exact ⟨m + 1, i + 1, A3, c3, by omega, by omega, Lib.hid (by rw [HM.out]), by go_num, rfl, Lib.hid HN.out⟩
            case measure => simp [intOf]; omega
        · obtain rfl : i = K := by omega
          have hmk : m = k := by have := HM.out; have := HK.out; omega
          subst hmk
          obtain ⟨⟨bl, cs, hM⟩, hB⟩ := HQ.out
          obtain ⟨bo, oo, rfl, hcells⟩ := HC.out hK3
          obtain ⟨u, hu, hI⟩ := hcells 0 hK3
          obtain ⟨A1, c1, rfl, e1, e2, e3⟩ := hI.open_
          have hal : (a.getD 0 []).length = i := by rw [HK.out]; exact rect_row HA.out (by omega)
          rw [hal] at e1 e3 hu
          obtain ⟨b1, o1, rfl, hcc⟩ := e3 hK3
          have hx := hcc j hlt
          have HCELL : Hid (∀ W, Below w.heap.size w W → W.cell? ⟨bo, oo, none⟩ = some (.slice (some ⟨b1, o1, none⟩) i c1) ∧ W.cell? ⟨b1, o1 + j, none⟩ = some (.int .i64 ((a.getD 0 []).getD j 0))) := Lib.hid fun W hW => ⟨(hW.cell (p := ⟨bo, oo + 0, none⟩) (World.block_lt_of_cell? w _ hu)).trans hu, (hW.cell (p := ⟨b1, o1 + j, none⟩) (World.block_lt_of_cell? w _ hx)).trans hx⟩
          have HDET : Hid (∀ W, Below wr.heap.size wr W → Calls Try.prog 23 #[.slice A m c] W fun e w' => e = .returned (.int .i64 (Sm.wr (detE m fun i q => ent a (i + 1) (skip j q)))) ∧ Below w.heap.size w w') := Lib.hid fun W hbW => by
            have hl : (lessTo a j m).length = m := lessTo_length a j m
            have hc := HIH.out W (.slice A m c) (lessTo a j m) ((hM.keep hbW).tab (lessTo_fits HA.out HF.out)) (lessTo_rect HA.out (by rw [← HK.out]; exact hlt))
            rw [lessTo_det HA.out (by rw [← HK.out]; exact hlt)] at hc
            exact hc.mono fun e w' ⟨h1, h2⟩ => ⟨h1, (hB.trans (hbW.mono hB.size)).trans (h2.mono (Nat.le_trans hB.size hbW.size))⟩
          have HSUM : Hid (detTo m (j + 1) (ent a) = Sm.wr (detTo m j (ent a) + Sm.wr (Sm.wr (sgn j * ent a 0 j) * Sm.wr (detE m fun i q => ent a (i + 1) (skip j q))))) := Lib.hid (detTo_succ m j (ent a)).symm
          have HZERO : Hid (ent a 0 j = 0 → detTo m (j + 1) (ent a) = detTo m j (ent a)) := Lib.hid fun h => detTo_zero h
          have HXE : Hid ((a.getD 0 []).getD j 0 = ent a 0 j) := Lib.hid rfl
          rw [HXE.out] at HCELL
          obtain ⟨hs1, hs2⟩ := HCELL.out wr hB
          have hfx := hI.2.at_ j
          rw [HXE.out] at hfx
          have HSG := Lib.hid (sgn_succ j)
          have HB2 := Lib.hid hB
          have hsb := sgn_bd j
          clear hM hB hcells hu hI e3 hcc hx hal HXE HQ
          generalize ent a 0 j = x at *
          generalize Sm.wr (detE m fun i q => ent a (i + 1) (skip j q)) = d at *
          generalize hs' : detTo m (j + 1) (ent a) = s' at *
          generalize detTo m j (ent a) = s at *
          generalize hg' : sgn (j + 1) = g' at *
          generalize sgn j = g at *
          have hw0 : IntKind.i64.wrap (-g) = -g := IntWalk.i64_in _ (by omega)
          by_cases hx0 : x = 0
          · have hd : (x != 0) = false := by simpa using hx0
            have hss : s' = s := HZERO.out hx0
            clear hx0 HZERO HSUM HDET
            go_wp2_with fail
            go_roundw
            case rel => exact ⟨j + 1, by omega, by go_num, by rw [hs', hss], by rw [hg', HSG.out], HB2⟩
            case measure => simp [intOf]; omega
          · have hd : (x != 0) = true := by simpa using hx0
            clear hx0 HZERO
            have hw1 := wr_wrap (g * x)
            have hw2 := wr_wrap64 (g * x)
            generalize Sm.wr (g * x) = p1 at *
            have hw3 := wr_wrap (p1 * d)
            have hw4 := wr_wrap64 (p1 * d)
            generalize Sm.wr (p1 * d) = p2 at *
            have hw5 := wr_wrap (s + p2)
            have hw6 := wr_wrap64 (s + p2)
            rw [← HSUM.out] at hw5 hw6
            go_wp2_with fail
            go_region_held3 (fun W => W.cell? ⟨bo, oo, none⟩ = some (.slice (some ⟨b1, o1, none⟩) i c1) ∧ W.cell? ⟨b1, o1 + j, none⟩ = some (.int .i64 x)) (first | (with_reducible exact HS1.out) | go_keep)
              ((go_at_call 23; (refine (HDET.out _ (below_drew (Below.refl _ _))).mono ?_); rintro e w1 ⟨rfl, hb1⟩; have HB3 := Lib.hid hb1; have HS1 := Lib.hid (HCELL.out _ hb1); clear hb1))
            go_wp2_with fail
            go_roundw
            case rel => exact ⟨j + 1, by omega, by go_num, by rw [hs'], by rw [hg', HSG.out], HB3⟩
            case measure => simp [intOf]; omega
    · obtain rfl : j = K := by omega
      have HE2 : Hid (detTo k j (ent a) = ZR) := Lib.hid (by rw [HE.out, HK.out])
      go_wp2_with fail
      go_ret
      exact ⟨ret_int HE2.out, HB.out⟩
theorem det23_any : ∀ (k : Nat), k ≤ 100 → ∀ (w : World) (v : Value) (a : Mat), Tab w v a → Rect a k k → Calls Try.prog 23 #[v] w (DetPost (wr (detE k (ent a))) w)
  | 0, _ => det23_zero
  | k + 1, hk => fun w v a h ha => det23_step k (k + 1) rfl (by omega) (det23_any k (by omega)) w v a h ha
end Go.Proofs
namespace Go.Proofs
open Go.RowKit Go.Shelf Go.Proofs.Sm
/-- what SmithForms looks at -/
structure FormsOk (rows n : Nat) (D : Mat) (d : List Int) (u v : Mat) : Prop where
  dr : d.length ≤ rows
  dn : d.length ≤ n
  ru : Rect u rows rows
  rv : Rect v n n
  form : ∀ i j, i < rows → j < n → ent (mulW n (mulW n u D) v) i j = if i = j then d.getD i 0 else 0
  pos : ∀ i, i < d.length → 1 ≤ d.getD i 0
  dvd : ∀ i, i + 1 < d.length → (d.getD (i + 1) 0).tmod (d.getD i 0) = 0
  du : Unit1 (wr (detE rows (ent u)))
  dv : Unit1 (wr (detE n (ent v)))
theorem forms_ok {rows n : Nat} {D : Mat} {s : S} (hr : D.length = rows) (h4 : rows ≤ 4) (hn4 : n ≤ 4) (hv : Valid n D) (ho : Out n D (some s)) : FormsOk rows n D (diagOf s) s.u s.v := by
  have e := out_end hv ho
  have hd := det_law1 (by rw [hr]; exact h4) hn4 hv ho
  have hf := fun i j hi hj => form_law hv ho (i := i) (j := j) hi hj
  rw [hr] at e hd hf
  have hl := length_diagOf s
  refine ⟨by rw [hl]; exact e.tr, by rw [hl]; exact e.tn, e.sh.ru, e.sh.rv, fun i j hi hj => ?_, fun i hi => ?_, fun i hi => ?_, hd.1, hd.2⟩
  · rw [hf i j hi hj]
    split
    · rcases Nat.lt_or_ge i s.t with h1 | h1
      · rw [diagOf_getD s h1]
      · rw [List.getD_eq_getElem?_getD, List.getElem?_eq_none (by rw [hl]; exact h1)]
        exact e.zero i i h1 h1
    · rfl
  · rw [hl] at hi
    rw [diagOf_getD s hi]
    exact e.pos i hi
  · rw [hl] at hi
    rw [diagOf_getD s hi, diagOf_getD s (by omega)]
    exact Int.tmod_eq_zero_of_dvd (end_dvd e i (i + 1) (by omega))
theorem drawn_valid (l : List Int) (rows n : Nat) : Valid n (drawnE l rows n) := by
  refine ⟨fun x hx => ?_, fun i j => ?_⟩
  · obtain ⟨i, -, rfl⟩ := List.mem_map.1 hx
    exact drRow_length l n i
  · unfold ent
    rcases Nat.lt_or_ge i rows with hi | hi
    · have : (drawnE l rows n).getD i [] = drRow l n i := by simp [drawnE, List.getD_eq_getElem?_getD, hi]
      rw [this]
      rcases Nat.lt_or_ge j n with hj | hj
      · have h2 : (drRow l n i).getD j 0 = dr l (i * n + j) := by simp [drRow, List.getD_eq_getElem?_getD, hj]
        rw [h2]
        have := dr_bd l (i * n + j)
        omega
      · rw [List.getD_eq_getElem?_getD, List.getElem?_eq_none (by rw [drRow_length]; exact hj)]; simp
    · rw [List.getD_eq_getElem?_getD (l := drawnE l rows n), List.getElem?_eq_none (by rw [drawnE_length]; exact hi)]; simp
theorem drawn_rect (l : List Int) (rows n : Nat) : Rect (drawnE l rows n) rows n := ⟨drawnE_length l rows n, (drawn_valid l rows n).row⟩
theorem drawn_fits (l : List Int) (rows n : Nat) : ∀ y ∈ drawnE l rows n, Fits y := fits_mat fun i j => by
  have := (drawn_valid l rows n).bd i j
  omega
theorem rowsE_ok {n : Int} : ∀ {l : List (List Int)}, (∀ x ∈ l, (x.length : Int) = n ∧ ∀ z ∈ x, -1000000 ≤ z ∧ z ≤ 1000000) → rowsE n l = 0
  | [], _ => rfl
  | y :: l, h => by
    unfold rowsE
    obtain ⟨h1, h2⟩ := h y (by simp)
    rw [if_neg (by omega)]
    have h3 : (y.any fun z => !entryB z) = false := by
      rw [List.any_eq_false]
      intro z hz
      have := h2 z hz
      unfold entryB
      simp; omega
    rw [h3, if_neg (by simp)]
    exact rowsE_ok fun x hx => h x (by simp [hx])
theorem check_ok {n : Nat} {l : Mat} (h1 : 1 ≤ n) (h2 : n ≤ 16) (hl : l.length ≤ 100) (hv : Valid n l) : checkE n l = 0 := by
  unfold checkE
  rw [if_neg (by omega), if_neg (by omega)]
  refine rowsE_ok fun x hx => ⟨by rw [hv.row x hx], fun z hz => ?_⟩
  obtain ⟨i, hi, rfl⟩ := List.getElem_of_mem hx
  obtain ⟨j, hj, rfl⟩ := List.getElem_of_mem hz
  have := hv.bd i j
  unfold ent at this
  rw [List.getD_eq_getElem?_getD (l := l), List.getElem?_eq_getElem hi, Option.getD_some, List.getD_eq_getElem?_getD, List.getElem?_eq_getElem hj, Option.getD_some] at this
  exact this
/-- what the drawn matrix gives -/
theorem forms_ex (l : List Int) (rows n : Nat) (h4 : rows ≤ 4) (h1 : 1 ≤ n) (hn4 : n ≤ 4) : SmE n (drawnE l rows n) [] [] [] 5 ∨ ∃ d u v, SmE n (drawnE l rows n) d u v 0 ∧ FormsOk rows n (drawnE l rows n) d u v := by
  have hv := drawn_valid l rows n
  have hc := check_ok h1 (by omega) (by rw [drawnE_length]; omega) hv
  obtain ⟨o, ho⟩ := out_ex hv
  have e : ((n : Int)).toNat = n := Int.toNat_natCast n
  cases o with
  | none => exact .inl (.inr ⟨hc, .inl ⟨by rw [e]; exact ho, rfl, rfl, rfl, rfl⟩⟩)
  | some s => exact .inr ⟨_, _, _, .inr ⟨hc, .inr ⟨s, by rw [e]; exact ho, rfl, rfl, rfl, rfl⟩⟩, forms_ok (drawnE_length l rows n) h4 hn4 hv ho⟩
end Go.Proofs
namespace Go.Proofs
open Go.RowKit Go.Shelf Go.Proofs.Sm
theorem mulW_fits (n : Nat) (a b : Mat) : ∀ y ∈ mulW n a b, Fits y := fun y hy z hz => by
  obtain ⟨p, -, rfl⟩ := List.mem_map.1 hy
  obtain ⟨k, -, rfl⟩ := List.mem_map.1 hz
  exact wr_bd _
def YesPost (w : World) (e : Ending) (w' : World) : Prop := e = .returned (.bool true) ∧ Below w.heap.size w w'
/-- the arguments of SmithForms, cut to size -/
theorem picks {x y : Int} : ∃ rows m : Nat, x % 5 = (rows : Int) ∧ y % 4 = (m : Int) ∧ rows ≤ 4 ∧ m ≤ 3 := by
  have h1 := Int.emod_nonneg x (show (5 : Int) ≠ 0 by omega)
  have h2 := Int.emod_lt_of_pos x (show (0 : Int) < 5 by omega)
  have h3 := Int.emod_nonneg y (show (4 : Int) ≠ 0 by omega)
  have h4 := Int.emod_lt_of_pos y (show (0 : Int) < 4 by omega)
  exact ⟨(x % 5).toNat, (y % 4).toNat, by omega, by omega, by omega, by omega⟩
set_option maxRecDepth 100000 in
theorem forms_long (w : World) (v : Value) (l : List Int) (x y : Int) (h : IntsAt w v l) (hl : 20 < l.length) : Calls Try.prog 4 #[v, .int .i64 x, .int .i64 y] w (YesPost w) := by
  have HL := Lib.hid (lives9_any w)
  obtain ⟨A, c, rfl, h1, h2, -⟩ := h.open_
  have hd : (20 : Int) < (l.length : Int) := by omega
  clear h
  go_enter Try.func4, Try.ntmps4
  go_wp2_with (go_at_call 9; (refine HL.out.mono ?_); rintro e w1 ⟨rfl, hb⟩; have HB := Lib.hid hb; clear hb)
  go_ret
  exact ⟨rfl, HB.out⟩
theorem drawn_at {w W : World} {A : Option Addr} {c : Nat} {l : List Int} (rows n : Nat) (hI : IntsAt w (.slice A l.length c) l) (hW : Below w.heap.size w W) (hn : 1 ≤ n) (hn2 : n ≤ 4) (hr : rows ≤ 4) : Calls Try.prog 20 #[.pointer (some ⟨W.heap.size, 0, none⟩), .int .i64 (rows : Int), .int .i64 (n : Int)] (W.alloc (.cells #[.slice A l.length c, .int .i64 0] 39)) fun e w' => ∃ A' c', e = .returned (.slice A' rows c') ∧ Hid (Tab w' (.slice A' rows c') (drawnE l rows n) ∧ Below w.heap.size w w') :=
  (drawn20_any W.heap.size rows n (W.alloc (.cells #[.slice A l.length c, .int .i64 0] 39)) A c l (TkM.start (kept_ints.below hI hW)) hn (by omega) (by omega)).mono fun e w' ⟨A', c', bl, cs, he, hM, _, hg⟩ => ⟨A', c', he, Lib.hid ⟨hM.tab (drawn_fits l rows n), hW.trans ((((Below.refl W.heap.size W).alloc (Nat.le_refl _) _).trans (below_gr hg (by simp))).mono hW.size)⟩⟩
set_option maxRecDepth 100000 in
set_option maxHeartbeats 2000000 in
theorem forms_five (w : World) (v : Value) (l : List Int) (x y : Int) (h : IntsAt w v l) (hx : In64 x) (hy : In64 y) (hl : l.length ≤ 20) (rows n m : Nat) (hxr : x % 5 = (rows : Int)) (hym : y % 4 = (m : Int)) (hn : n = m + 1) (hr4 : rows ≤ 4) (hn4 : n ≤ 4) (hE : SmE n (drawnE l rows n) [] [] [] 5) : Calls Try.prog 4 #[v, .int .i64 x, .int .i64 y] w (YesPost w) := by
  have HL := Lib.hid (lives9_any w)
  have HPX := Lib.hid fun W => pick19_any W x 5 hx (by omega) (by omega)
  have HPY := Lib.hid fun W => pick19_any W y 4 hy (by omega) (by omega)
  rw [hxr] at HPX
  rw [hym] at HPY
  have HN := Lib.hid hn
  have hm0 : (0 : Int) ≤ (m : Int) := Int.natCast_nonneg _
  have hm1 : (m : Int) ≤ 3 := by omega
  have hnm : (1 : Int) + (m : Int) = (n : Int) := by omega
  have hld : (l.length : Int) ≤ 20 := by omega
  have HI := Lib.hid h
  have HE := Lib.hid hE
  obtain ⟨A, c, rfl, h1, h2, -⟩ := h.open_
  have HDR : Hid (∀ W, Below w.heap.size w W → _) := Lib.hid fun W hW => drawn_at rows n HI.out hW (by omega) hn4 hr4
  clear h hE hxr hym hn
  go_enter Try.func4, Try.ntmps4
  go_wp2_with (first
    | (go_at_call 9; (refine HL.out.mono ?_); rintro e w1 ⟨rfl, hb⟩; have HB := Lib.hid hb; clear hb)
    | (go_at_call 19; (with_reducible refine (HPX.out _).mono ?_); rintro e w' ⟨rfl, rfl⟩)
    | (go_at_call 19; (with_reducible refine (HPY.out _).mono ?_); rintro e w' ⟨rfl, rfl⟩)
    | (go_at_call 20; (refine (HDR.out w1 HB.out).mono ?_); rintro e w2 ⟨A2, c2, rfl, HD⟩; have HS := Lib.hid (smith11_any w2 n _ _ HD.out.1 HE.out))
    | (go_at_call 11; (refine HS.out.mono ?_); rintro e w3 ⟨⟨vd, vu, vv, rfl, hd, hu, hv⟩, hb⟩; obtain ⟨Ad, cd, rfl, -, -, -⟩ := id hd.open_; obtain ⟨Au, cu, rfl, -, -, -⟩ := LAt.open_ hu; obtain ⟨Av, cv, rfl, -, -, -⟩ := LAt.open_ hv; have HB3 := Lib.hid (HD.out.2.trans (hb.mono HD.out.2.size)); clear hd hu hv hb))
  go_ret
  exact ⟨rfl, HB3.out⟩
end Go.Proofs
namespace Go.Proofs
open Go.RowKit Go.Shelf Go.Proofs.Sm
theorem mul_at {w0 : World} {va vb : Value} {a b : Mat} {p q n : Nat} (ha : Tab w0 va a) (hb : Tab w0 vb b) (hra : Rect a p q) (hrb : Rect b q n) (hn : 1 ≤ n) (hp : p ≤ 1000) (hq : q ≤ 1000) (hn2 : n ≤ 1000) (W : World) (hW : Below w0.heap.size w0 W) :
    Calls Try.prog 22 #[va, vb, .int .i64 (n : Int)] W fun e w' => ∃ A c, e = .returned (.slice A p c) ∧ Hid (Tab w' (.slice A p c) (mulW n a b) ∧ Below w0.heap.size w0 w') :=
  (mul22_any W va vb a b p q n (kept_tab.below ha hW) (kept_tab.below hb hW) hra hrb hn hp hq hn2).mono fun e w' ⟨A, c, bl, cs, he, hM, hB⟩ => by
    rw [hra.1] at he hM
    exact ⟨A, c, he, Lib.hid ⟨hM.tab (mulW_fits n a b), hW.trans (hB.mono hW.size)⟩⟩
theorem shape_at {w0 : World} {v : Value} {a : Mat} {r n : Nat} (ha : Tab w0 v a) (hr : Rect a r n) (W : World) (hW : Below w0.heap.size w0 W) :
    Calls Try.prog 21 #[v, .int .i64 (r : Int), .int .i64 (n : Int)] W fun e w' => e = .returned (.bool true) ∧ Hid (Below w0.heap.size w0 w') :=
  (shape21_true W v a r n (kept_tab.below ha hW) hr).mono fun e w' ⟨he, q, hq⟩ => ⟨he, Lib.hid (by rw [hq]; exact below_drewN hW q)⟩
theorem det_at {w0 : World} {v : Value} {a : Mat} {r : Nat} (ha : Tab w0 v a) (hr : Rect a r r) (hr4 : r ≤ 4) (W : World) (hW : Below w0.heap.size w0 W) :
    Calls Try.prog 23 #[v] W fun e w' => e = .returned (.int .i64 (wr (detE r (ent a)))) ∧ Hid (Below w0.heap.size w0 w') :=
  (det23_any r (by omega) W v a (kept_tab.below ha hW) hr).mono fun e w' ⟨he, hq⟩ => ⟨he, Lib.hid (hW.trans (hq.mono hW.size))⟩
set_option maxRecDepth 100000 in
set_option maxHeartbeats 4000000 in
theorem forms_some (w : World) (v : Value) (l : List Int) (x y : Int) (h : IntsAt w v l) (hx : In64 x) (hy : In64 y) (hl : l.length ≤ 20) (rows n m : Nat) (hxr : x % 5 = (rows : Int)) (hym : y % 4 = (m : Int)) (hn : n = m + 1) (hr4 : rows ≤ 4) (hn4 : n ≤ 4) (d : List Int) (u vm : Mat) (hE : SmE n (drawnE l rows n) d u vm 0) (hF : FormsOk rows n (drawnE l rows n) d u vm) : Calls Try.prog 4 #[v, .int .i64 x, .int .i64 y] w (YesPost w) := by
  have HL := Lib.hid (lives9_any w)
  have HPX := Lib.hid fun W => pick19_any W x 5 hx (by omega) (by omega)
  have HPY := Lib.hid fun W => pick19_any W y 4 hy (by omega) (by omega)
  rw [hxr] at HPX
  rw [hym] at HPY
  have HN := Lib.hid hn
  have hm0 : (0 : Int) ≤ (m : Int) := Int.natCast_nonneg _
  have hm1 : (m : Int) ≤ 3 := by omega
  have hnm : (1 : Int) + (m : Int) = (n : Int) := by omega
  have hld : (l.length : Int) ≤ 20 := by omega
  have HI := Lib.hid h
  have HE := Lib.hid hE
  have HF := Lib.hid hF
  obtain ⟨A, c, rfl, h1, h2, -⟩ := h.open_
  have HDR : Hid (∀ W, Below w.heap.size w W → _) := Lib.hid fun W hW => drawn_at rows n HI.out hW (by omega) hn4 hr4
  obtain ⟨D, hD⟩ : ∃ D, D = drawnE l rows n := ⟨_, rfl⟩
  have HRD := Lib.hid (drawn_rect l rows n)
  rw [← hD] at HE HF HDR HRD
  obtain ⟨dl, hdl⟩ : ∃ dl, dl = d.length := ⟨_, rfl⟩
  have HDL := Lib.hid hdl
  have hdr : (dl : Int) ≤ (rows : Int) := by have := HF.out.dr; omega
  have hdn : (dl : Int) ≤ (n : Int) := by have := HF.out.dn; omega
  have hg1 : decide ((rows : Int) < (dl : Int)) = false := decide_eq_false (by omega)
  have hg2 : decide ((n : Int) < (dl : Int)) = false := decide_eq_false (by omega)
  have hr0 : (0 : Int) ≤ (rows : Int) := Int.natCast_nonneg _
  have hn0 : (0 : Int) ≤ (n : Int) := Int.natCast_nonneg _
  have hrb : (rows : Int) ≤ 4 := by omega
  have hnb : (n : Int) ≤ 4 := by omega
  clear h hE hxr hym hn hF hD hdl
  go_enter Try.func4, Try.ntmps4
  go_wp2_with (first
    | (go_at_call 9; (refine HL.out.mono ?_); rintro e w1 ⟨rfl, hb⟩; have HB := Lib.hid hb; clear hb)
    | (go_at_call 19; (with_reducible refine (HPX.out _).mono ?_); rintro e w' ⟨rfl, rfl⟩)
    | (go_at_call 19; (with_reducible refine (HPY.out _).mono ?_); rintro e w' ⟨rfl, rfl⟩)
    | (go_at_call 20; (refine (HDR.out w1 HB.out).mono ?_); rintro e w2 ⟨A2, c2, rfl, HD⟩; have HS := Lib.hid (smith11_any w2 n _ _ HD.out.1 HE.out))
    | (go_at_call 11
       (refine HS.out.mono ?_)
       rintro e w3 ⟨⟨vd, vu, vv, rfl, hd, hu, hv⟩, hb⟩
       have HB3 := Lib.hid (HD.out.2.trans (hb.mono HD.out.2.size))
       have hDt := kept_tab.below HD.out.1 hb
       obtain ⟨Ad, cd, rfl, d1, d2, d3⟩ := id hd.open_
       obtain ⟨Au, cu, rfl, -, -, -⟩ := LAt.open_ hu
       obtain ⟨Av, cv, rfl, -, -, -⟩ := LAt.open_ hv
       have hlu : u.length = rows := HF.out.ru.1
       have hlv : vm.length = n := HF.out.rv.1
       rw [hlu] at hu ⊢
       rw [hlv] at hv ⊢
       rw [← HDL.out] at hd d1 d3 ⊢
       have HC := Lib.hid d3
       have HSU := Lib.hid (shape_at hu HF.out.ru)
       have HSV := Lib.hid (shape_at hv HF.out.rv)
       have HMU := Lib.hid (mul_at hu hDt HF.out.ru HRD.out (by have := HN.out; omega) (by omega) (by omega) (by omega))
       have HTU := Lib.hid hu
       have HTV := Lib.hid hv
       clear hd hu hv hb hDt d3 hlu hlv)
    | (go_at_call 21; (with_reducible refine (HSU.out w3 (Below.refl _ _)).mono ?_); rintro e w4 ⟨rfl, HB4⟩)
    | (go_at_call 21; (with_reducible refine (HSV.out w4 HB4.out).mono ?_); rintro e w5 ⟨rfl, HB5⟩)
    | (go_at_call 22; (with_reducible refine (HMU.out w5 HB5.out).mono ?_); rintro e w6 ⟨A6, c6, rfl, HM6⟩; have HMV := Lib.hid (mul_at HM6.out.1 (kept_tab.below HTV.out HM6.out.2) ⟨(mulW_rect n u D).1.trans HF.out.ru.1, (mulW_rect n u D).2⟩ HF.out.rv (by have := HN.out; omega) (by omega) (by omega) (by omega)))
    | (go_at_call 22; (with_reducible refine (HMV.out w6 (Below.refl _ _)).mono ?_); rintro e w7 ⟨A7, c7, rfl, HM7⟩))
  have HB37 := Lib.hid (HM6.out.2.trans (HM7.out.2.mono HM6.out.2.size))
  have HDU := Lib.hid (det_at HTU.out HF.out.ru hr4)
  have HDV := Lib.hid (det_at HTV.out HF.out.rv hn4)
  have HU1 : Hid (wr (detE rows (ent u)) = 1 ∨ wr (detE rows (ent u)) = -1) := Lib.hid HF.out.du
  have HV1 : Hid (wr (detE n (ent vm)) = 1 ∨ wr (detE n (ent vm)) = -1) := Lib.hid HF.out.dv
  generalize wr (detE rows (ent u)) = zu at *
  generalize wr (detE n (ent vm)) = zv at *
  have HT7 := Lib.hid HM7.out.1
  have HRF : Hid (Rect (mulW n (mulW n u D) vm) rows n) := Lib.hid ⟨(mulW_rect n _ vm).1.trans ((mulW_rect n u D).1.trans HF.out.ru.1), (mulW_rect n _ vm).2⟩
  have HFORM := Lib.hid HF.out.form
  have HPOS : Hid (∀ i, i < dl → 1 ≤ d.getD i 0) := Lib.hid fun i hi => HF.out.pos i (by rw [← HDL.out]; exact hi)
  have HDVD : Hid (∀ i, i + 1 < dl → (d.getD (i + 1) 0).tmod (d.getD i 0) = 0) := Lib.hid fun i hi => HF.out.dvd i (by rw [← HDL.out]; exact hi)
  have HDZ : Hid (∀ i, dl ≤ i → d.getD i 0 = 0) := Lib.hid fun i hi => by rw [List.getD_eq_getElem?_getD, List.getElem?_eq_none (by rw [← HDL.out]; exact hi)]; rfl
  have HB3' := Lib.hid (HB3.out.trans (HB37.out.mono HB3.out.size))
  generalize mulW n (mulW n u D) vm = F at *
  have HC7 : Hid (0 < dl → ∃ b off, Ad = some ⟨b, off, none⟩ ∧ ∀ k, k < dl → w7.cell? ⟨b, off + k, none⟩ = some (.int .i64 (d.getD k 0))) := Lib.hid fun h0 => by
    obtain ⟨b, off, e, hcc⟩ := HC.out h0
    exact ⟨b, off, e, fun k hk => (HB37.out.cell (p := ⟨b, off + k, none⟩) (World.block_lt_of_cell? w3 _ (hcc k hk))).trans (hcc k hk)⟩
  clear HL HPX HPY HN HI HE HF HDR HRD HB HD HS HC HSU HSV HMU HTU HTV HM6 HMV HM7 HB4 HB5
  go_loopw [13] (fun z wr => ∃ i : Nat, i ≤ rows ∧ z = .int .i64 i ∧ ∃ q, wr = w7.drewN q) (fun z _ => rows - (intOf z).toNat)
  case atStart => exact ⟨0, by omega, rfl, 0, rfl⟩
  case round =>
    obtain ⟨i, hi, rfl, q, rfl⟩ := hrel
    have hi0 : (0 : Int) ≤ (i : Int) := Int.natCast_nonneg _
    by_cases hlt : i < rows
    · have hlt' : (i : Int) < (rows : Int) := by omega
      obtain ⟨A9, c9, e9, t1, t2, t3⟩ := LAt.open_ HT7.out
      rw [HRF.out.1] at e9 t1 t3
      obtain ⟨rfl, -, rfl⟩ := Value.slice.inj e9
      obtain ⟨bo, oo, rfl, hcells⟩ := t3 (by omega)
      obtain ⟨uu, hu, hI⟩ := hcells i hlt
      obtain ⟨A1, c1, rfl, e1, e2, e3⟩ := hI.open_
      have hal : (F.getD i []).length = n := rect_row HRF.out hlt
      rw [hal] at e1 e3 hu
      have HROW := Lib.hid e3
      clear hcells hI e3 t3 hal e9
      go_wp2_with fail
      go_loopw [14] (fun z wr => ∃ j : Nat, j ≤ n ∧ z = .int .i64 j ∧ ∃ q, wr = w7.drewN q) (fun z _ => n - (intOf z).toNat)
      case atStart => exact ⟨0, by omega, rfl, _, rfl⟩
      case round =>
        obtain ⟨j, hj, rfl, q2, rfl⟩ := hrel
        have hj0 : (0 : Int) ≤ (j : Int) := Int.natCast_nonneg _
        by_cases hjl : j < n
        · have hjl' : (j : Int) < (n : Int) := by omega
          obtain ⟨b1, o1, rfl, hcc⟩ := HROW.out (by omega)
          have hx := hcc j hjl
          have hform : (F.getD i []).getD j 0 = if i = j then d.getD i 0 else 0 := HFORM.out i j hlt hjl
          rw [hform] at hx
          clear hcc hform
          by_cases hij : i = j
          · subst hij
            rw [if_pos rfl] at hx
            have hd1 : ((i : Int) == (i : Int)) = true := by simp
            by_cases hid : i < dl
            · have hid' : (i : Int) < (dl : Int) := by omega
              obtain ⟨bd, od, rfl, hcd⟩ := HC7.out (by omega)
              have hcx := hcd i hid
              clear hcd
              generalize d.getD i 0 = z at *
              have hne : (z != z) = false := by simp
              go_wp2_with fail
              go_roundw
              case rel => exact ⟨i + 1, by omega, by go_num, (by first | exact ⟨_, rfl⟩ | exact ex_drewN)⟩
              case measure => simp [intOf]; omega
            · have hid' : decide ((i : Int) < (dl : Int)) = false := decide_eq_false (by omega)
              rw [HDZ.out i (by omega)] at hx
              go_wp2_with fail
              go_roundw
              case rel => exact ⟨i + 1, by omega, by go_num, (by first | exact ⟨_, rfl⟩ | exact ex_drewN)⟩
              case measure => simp [intOf]; omega
          · rw [if_neg hij] at hx
            have hd1 : ((i : Int) == (j : Int)) = false := by rw [beq_eq_false_iff_ne]; omega
            clear hij
            go_wp2_with fail
            go_roundw
            case rel => exact ⟨j + 1, by omega, by go_num, (by first | exact ⟨_, rfl⟩ | exact ex_drewN)⟩
            case measure => simp [intOf]; omega
        · obtain rfl : j = n := by omega
          go_wp2_with fail
          go_roundw
          case rel => exact ⟨i + 1, by omega, by go_num, (by first | exact ⟨_, rfl⟩ | exact ex_drewN)⟩
          case measure => simp [intOf]; omega
    · obtain rfl : i = rows := by omega
      clear HFORM HT7 HRF
      go_wp2_with fail
      go_loopw [16] (fun z wr => ∃ k : Nat, k ≤ dl ∧ z = .int .i64 k ∧ ∃ q, wr = w7.drewN q) (fun z _ => dl - (intOf z).toNat)
      case atStart => exact ⟨0, by omega, rfl, _, rfl⟩
      case round =>
        obtain ⟨k, hk, rfl, q3, rfl⟩ := hrel
        have hk0 : (0 : Int) ≤ (k : Int) := Int.natCast_nonneg _
        by_cases hkl : k < dl
        · have hkl' : (k : Int) < (dl : Int) := by omega
          obtain ⟨bd, od, rfl, hcd⟩ := HC7.out (by omega)
          have hcx := hcd k hkl
          have hp1 := HPOS.out k hkl
          have hp2 : decide (d.getD k 0 < 1) = false := decide_eq_false (by omega)
          rcases Nat.eq_zero_or_pos k with h0 | h0
          · have hk1 : decide ((0 : Int) < (k : Int)) = false := decide_eq_false (by omega)
            have hk2 : decide (0 < k) = false := decide_eq_false (by omega)
            clear hcd h0
            generalize d.getD k 0 = z at *
            go_wp2_with fail
            go_quiet (fail)
            go_wp2_with fail
            go_roundw
            case rel => exact ⟨k + 1, by omega, by go_num, (by first | exact ⟨_, rfl⟩ | exact ex_drewN)⟩
            case measure => simp [intOf]; omega
          · obtain ⟨p, hp⟩ : ∃ p, k = p + 1 := ⟨k - 1, by omega⟩
            have hcp := hcd p (by omega)
            have hq1 := HPOS.out p (by omega)
            have hmod : (d.getD k 0).tmod (d.getD p 0) = 0 := by rw [hp]; exact HDVD.out p (by omega)
            have hw1 : IntKind.i64.wrap ((k : Int) - 1) = (p : Int) := by rw [IntWalk.i64_in _ (by omega)]; omega
            have hz : (d.getD p 0 == 0) = false := by rw [beq_eq_false_iff_ne]; omega
            have hk1 : (0 : Int) < (k : Int) := by omega
            have hp0 : (0 : Int) ≤ (p : Int) := Int.natCast_nonneg _
            have hpl : (p : Int) < (dl : Int) := by omega
            clear hcd hp
            generalize d.getD k 0 = z at *
            generalize d.getD p 0 = z2 at *
            go_wp2_with fail
            go_quiet (fail)
            go_wp2_with fail
            go_roundw
            case rel => exact ⟨k + 1, by omega, by go_num, (by first | exact ⟨_, rfl⟩ | exact ex_drewN)⟩
            case measure => simp [intOf]; omega
        · obtain rfl : k = dl := by omega
          have hzu : zu * zu = 1 := by rcases HU1.out with h | h <;> rw [h] <;> rfl
          have hzv : zv * zv = 1 := by rcases HV1.out with h | h <;> rw [h] <;> rfl
          have hwu : IntKind.i64.wrap (zu * zu) = 1 := by rw [hzu]; rfl
          have hwv : IntKind.i64.wrap (zv * zv) = 1 := by rw [hzv]; rfl
          go_wp2_with (first
            | (go_at_call 23; (with_reducible refine (HDU.out _ (below_drewN HB37.out _)).mono ?_); rintro e w8 ⟨rfl, HB8⟩)
            | (go_at_call 23; (with_reducible refine (HDV.out w8 HB8.out).mono ?_); rintro e w9 ⟨rfl, HB9⟩))
          go_ret
          exact ⟨rfl, HB3.out.trans (HB9.out.mono HB3.out.size)⟩
end Go.Proofs
namespace Go.Proofs
open Go.RowKit Go.Shelf Go.Proofs.Sm
theorem forms4_any (w : World) (v : Value) (l : List Int) (x y : Int) (h : IntsAt w v l) (hx : In64 x) (hy : In64 y) : Calls Try.prog 4 #[v, .int .i64 x, .int .i64 y] w (YesPost w) := by
  by_cases hl : 20 < l.length
  · exact forms_long w v l x y h hl
  · obtain ⟨rows, m, hr, hm, hr4, hm3⟩ := picks (x := x) (y := y)
    rcases forms_ex l rows (m + 1) hr4 (by omega) (by omega) with hE | ⟨d, u, vm, hE, hF⟩
    · exact forms_five w v l x y h hx hy (by omega) rows (m + 1) m hr hm rfl hr4 (by omega) hE
    · exact forms_some w v l x y h hx hy (by omega) rows (m + 1) m hr hm rfl hr4 (by omega) d u vm hE hF
end Go.Proofs
namespace Go.Proofs
open Go.RowKit Go.ChangeShapes Go.WideShapes Go.ChangeAt Go.Deep
section
variable {H : Type} {enc : TypeId × Value → H} {W : World}
theorem spot_none {a : Addr} {v : Value} (h : W.cell? (a.add 0) = some v) : a = ⟨a.block, a.off, none⟩ := by
  obtain ⟨b, o, s⟩ := a
  cases s with
  | none => rfl
  | some q =>
    exfalso
    have e : ({ block := b, off := o, spot := some q } : Addr).add 0 = { block := b, off := o, spot := some q } := by unfold Addr.add; rw [if_pos rfl]
    rw [e] at h
    unfold World.cell? at h
    simp only [Option.isSome_some, if_true] at h
    split at h <;> cases h
theorem wf_fits {x : Int} (h : (Lit.int .i64 x).wf = true) : -9223372036854775808 ≤ x ∧ x ≤ 9223372036854775807 := by
  simpa [Lit.wf, IntKind.min, IntKind.max, IntKind.signed, IntKind.bits] using h
theorem lat_of_trod {α : Type} {R : World → Value → α → Prop} {d : α} {t e : TypeId} {base fuel : Nat} {spare : Nat → Bool} {held : Bool} {v : Value} {x : DataW H × List MemPlace} (ht : Try.prog.underlying t = some (.slice e)) (hc : Try.prog.cellsOf e = 1)
    (hR : ∀ n u y, DataW.trod enc Try.prog W base spare held n e [u] = some y → ∃ z, R W u z) (h : DataW.trod enc Try.prog W base spare held fuel t [v] = some x) : ∃ xs, LAt R d W v xs := by
  rcases open_slice1 ht hc h with ⟨hv, -⟩ | ⟨a, len, cap, m, n, V, D, Pl, hv, -, hl, hm, hmm, -, hx⟩
  · obtain rfl : v = .slice none 0 0 := by simpa using hv
    exact ⟨[], [], ⟨none, 0, 0, rfl, rfl, Nat.le_refl _, by simp [maxLen], fun h => absurd h (by simp)⟩, rfl, fun i hi => absurd hi (by simp)⟩
  · obtain rfl : v = .slice (some a) len cap := by simpa using hv
    have hlm : len ≤ m := by rw [hmm]; split <;> omega
    have hz : ∀ i, i < len → ∃ z, R W (V i) z := fun i hi => hR n (V i) _ (hx i (by omega)).2
    have hf : ∃ f : Nat → α, ∀ i, i < len → R W (V i) (f i) := by
      have hz' : ∀ i, ∃ z, i < len → R W (V i) z := fun i => by
        by_cases hi : i < len
        · obtain ⟨z, hz⟩ := hz i hi; exact ⟨z, fun _ => hz⟩
        · exact ⟨d, fun h => absurd h hi⟩
      exact ⟨fun i => Classical.choose (hz' i), fun i => Classical.choose_spec (hz' i)⟩
    obtain ⟨f, hf⟩ := hf
    refine ⟨(List.range len).map f, (List.range len).map V, ⟨_, len, cap, rfl, by simp, hl, hm, fun h0 => ?_⟩, by simp, fun i hi => ?_⟩
    · have hsp := spot_none (hx 0 (by omega)).1
      refine ⟨a.block, a.off, by rw [← hsp], fun j u hu => ?_⟩
      have hj : j < len := by have := (List.getElem?_eq_some_iff.1 hu).1; simpa using this
      have := (hx j (by omega)).1
      rw [hsp, Addr.add_lit] at this
      rw [this, ← hu]
      simp [List.getElem?_range hj]
    · have hi' : i < len := by simpa using hi
      refine ⟨V i, by simp [List.getElem?_range hi'], ?_⟩
      have : ((List.range len).map f).getD i d = f i := by simp [List.getD_eq_getElem?_getD, List.getElem?_range hi']
      rw [this]
      exact hf i hi'
theorem intsT_of_trod {t : TypeId} (ht : Try.prog.underlying t = some (.slice 3)) {base fuel : Nat} {spare : Nat → Bool} {held : Bool} {v : Value} {x : DataW H × List MemPlace} (h : DataW.trod enc Try.prog W base spare held fuel t [v] = some x) : ∃ xs, IntsAt W v xs := by
  obtain ⟨xs, vs, hS, hl, he⟩ := lat_of_trod (R := fun _ u z => u = .int .i64 z ∧ (Lit.int .i64 z).wf = true) (d := 0) ht (by kernel_rfl) (fun n u y hy => by
    obtain ⟨m, hu, -, hw⟩ := DataW.trod_int Try.underlying3 hy
    exact ⟨m, by simpa using hu, hw⟩) h
  have hvs : vs = ints xs := by
    apply List.ext_getElem (by simpa [ints] using hl)
    intro i h1 h2
    obtain ⟨u, hu, rfl, -⟩ := he i (by omega)
    have hi : i < xs.length := by omega
    rw [List.getElem?_eq_getElem h1] at hu
    rw [Option.some.inj hu]
    simp [ints, List.getD_eq_getElem?_getD, hi]
  refine ⟨xs, hvs ▸ hS, fun z hz => ?_⟩
  obtain ⟨i, hi, rfl⟩ := List.getElem_of_mem hz
  obtain ⟨u, -, -, hw⟩ := he i hi
  have e : xs.getD i 0 = xs[i] := by simp [List.getD_eq_getElem?_getD, hi]
  rw [e] at hw
  exact wf_fits hw
theorem ints_of_trod {base fuel : Nat} {spare : Nat → Bool} {held : Bool} {v : Value} {x : DataW H × List MemPlace} (h : DataW.trod enc Try.prog W base spare held fuel 25 [v] = some x) : ∃ xs, IntsAt W v xs := intsT_of_trod Try.underlying25 h
end
end Go.Proofs
