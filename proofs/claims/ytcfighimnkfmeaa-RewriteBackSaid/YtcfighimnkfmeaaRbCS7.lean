/- word.Invert, slices.Concat, word.Mul; cayleyref02.Invert and Mul; Maps keyed by pairs of numbers; The system of a table in memory: its map of numbers and its list of pairs; The methods of the system: step, number, grows; (system).grows; coset.Reps and cayleyref18.Reps. -/
import Derived.Test.YtcfighimnkfmeaaRbCS6
import Derived.DeepKeys4
import Derived.MapViews
import Derived.WideKeyArgs
import Derived.Test.YtcfighimnkfmeaaRbCS1
import Derived.Test.YtcfighimnkfmeaaRbCS5
namespace Go.Proofs
open Go.RowKit Go.Shelf Go.Proofs.Ct
theorem RedPost.base {x : List Int} {w w1 : World} {e : Ending} {w' : World} (hb : Below w.heap.size w w1) (h : RedPost x w1 e w') : RedPost x w e w' := by
  obtain ⟨A, c, h1, h2, h3⟩ := h
  exact ⟨A, c, h1, owns_base h2 hb.size, hb.trans (h3.mono hb.size)⟩
set_option maxRecDepth 100000 in
theorem invert72_any (w : World) (v : Value) (x : List Int) (h : IntsAt w v x) (hm : ∀ z ∈ x, Mild z) (hl : x.length ≤ 100000) : Calls Try.prog 72 #[v] w (RedPost (inv x) w) := by
  have HC := Lib.hid (turned116_any w v x h hm hl)
  have HM := Lib.hid (mild_inv hm)
  have HL : Hid ((inv x).length ≤ 100000) := Lib.hid (by rw [length_inv]; exact hl)
  clear h hm hl
  go_enter Try.func72, Try.ntmps72
  go_wp2_with (first
    | (go_at_call 116
       (refine HC.out.mono ?_)
       rintro e w1 ⟨⟨u, rfl, hu⟩, hb⟩
       have HR := Lib.hid (reduce99_any w1 u (inv x) hu HM.out HL.out)
       have HB := Lib.hid hb
       clear hu hb)
    | (go_at_call 99
       (refine HR.out.mono ?_)
       rintro e w2 ⟨A, c, rfl, ho, hb⟩
       have HO := Lib.hid ho
       have HB2 := Lib.hid hb
       clear ho hb))
  go_ret
  exact RedPost.base HB.out ⟨A, c, rfl, HO.out, HB2.out⟩
theorem run_append_zeros (w : World) (n : Nat) (h0 : 0 < n) (hn : n ≤ 1000000) :
    (Builtin.append_ #[25, 3] 25 #[.slice none 0 0, .int .i64 (n : Int)]).run Try.prog w =
      .ok (.slice (some ⟨w.heap.size, 0, none⟩) n (grownCap w n 0 3)) (w.drew.alloc (.cells (Builtin.zeroCells #[.int .i64 0] n ++ Builtin.zeroCells #[.int .i64 0] (grownCap w n 0 3 - n)) 3)) := by
  obtain ⟨i, hi, hz, hs, hby⟩ := info3p
  have hwr : IntKind.i64.wrap (n : Int) = n := IntWalk.i64_in _ (by omega)
  have hn0 : n ≠ 0 := by omega
  have h48 : ¬ (281474976710656 < Builtin.nextslicecap n 0 * i.bytes) := by rw [nextslicecap_zero h0, hby]; omega
  have h48' : ¬ ((281474976710656 : Int) < (n : Int) * (i.bytes : Int)) := by rw [hby]; omega
  have h63' : ¬ (9223372036854775807 < (n : Int)) := by omega
  have hneg : ¬ ((n : Int) < 0) := by omega
  simp [Builtin.append_, run_underlying Try.underlying25, run_underlying Try.underlying3, sizeOf, typeInfo, zeroValue, hi, hz, hs, asInt, asIntOf, hwr, hneg, h48', hn0, h48, h63', Question.forced, run_firstCells_none, newRow, grownCap, Value.cells]
theorem r_app2 {o : Oper} {a : Act} {w w' : World} (s x : Operand) (t u : TypeId) {sv xv v' : Value} (ho : o.op = .call { callee := .builtin .append, args := #[s, x], argTypes := #[t, u] }) (hs : a.eval s = sv) (hx : a.eval x = xv)
    (hr : (Builtin.append_ #[t, u] o.type #[sv, xv]).run Try.prog w = .ok v' w') : (execOp a.eval o).run Try.prog w = .ok (.value v') w' := by
  unfold execOp
  simp only [ho, resolve, invoke, builtin, Sem.run_bind, Sem.run_pure, Result.andThen_ok, List.map_toArray, List.map_cons, List.map_nil, hs, hx, hr]
def GrowPost (w : World) (e : Ending) (w' : World) : Prop := ∃ A c, e = .returned (.slice A 0 c) ∧ OwnI w.heap.size w' (.slice A 0 c) [] ∧ Below w.heap.size w w'
set_option maxRecDepth 100000 in
theorem grow135_any (w : World) (n : Nat) (hn : n ≤ 1000000) : Calls Try.prog 135 #[.slice none 0 0, .int .i64 (n : Int)] w (GrowPost w) := by
  have hn0 : (0 : Int) ≤ (n : Int) := Int.natCast_nonneg _
  have hn1 : (n : Int) ≤ 1000000 := by omega
  by_cases h0 : n = 0
  · subst h0
    go_enter Try.func135, Try.ntmps135
    go_wp2_with fail
    go_ret
    exact ⟨none, 0, rfl, World.ownsRow_nil _ _ _ _, Below.refl _ _⟩
  · have hpos : (0 : Int) < (n : Int) := by omega
    have hr := run_append_zeros w n (by omega) hn
    have hcm := grownCap_le_maxLen w n 0 3 (by unfold maxLen; omega)
    have hcg := grownCap_ge w n 0 3
    have hsz : (Builtin.zeroCells #[Value.int .i64 0] n ++ Builtin.zeroCells #[Value.int .i64 0] (grownCap w n 0 3 - n)).size = grownCap w n 0 3 := by
      simp [size_zeroCells]; omega
    have hnew := heap_alloc_new w.drew (.cells (Builtin.zeroCells #[Value.int .i64 0] n ++ Builtin.zeroCells #[Value.int .i64 0] (grownCap w n 0 3 - n)) 3)
    have hbel : Below w.heap.size w (w.drew.alloc (.cells (Builtin.zeroCells #[Value.int .i64 0] n ++ Builtin.zeroCells #[Value.int .i64 0] (grownCap w n 0 3 - n)) 3)) := (below_drewN (Below.refl w.heap.size w) 1).alloc (Nat.le_refl _) _
    generalize Builtin.zeroCells #[Value.int .i64 0] n ++ Builtin.zeroCells #[Value.int .i64 0] (grownCap w n 0 3 - n) = C at *
    generalize grownCap w n 0 3 = cap at *
    have hown : OwnI w.heap.size (w.drew.alloc (.cells C 3)) (.slice (some ⟨w.heap.size, 0, none⟩) 0 cap) [] := ⟨rfl, .inr ⟨w.heap.size, cap, C, rfl, Nat.le_refl _, hnew, Nat.zero_le _, hcm, by omega, by simp [ints]⟩⟩
    generalize w.drew.alloc (.cells C 3) = W at *
    have hcm' : cap ≤ 9223372036854775807 := by unfold maxLen at hcm; exact hcm
    have hcg' : (n : Int) ≤ (cap : Int) := by omega
    have HR := Lib.hid hr
    have HO := Lib.hid hown
    have HB := Lib.hid hbel
    clear hr hown hbel hnew hsz hcm
    go_enter Try.func135, Try.ntmps135
    go_wp2_with ((with_reducible refine wpList_sel 22 ?_); refine wpList_val rfl (r_app2 (.tmp 20) (.tmp 21) 25 3 rfl rfl rfl HR.out) ?_)
    go_ret
    exact ⟨_, cap, rfl, HO.out, HB.out⟩
/-- the lists before the k-th, one after the other -/
def flatTo (xs : List (List Int)) (k : Nat) : List Int := foldTo (fun k l => l ++ xs.getD k []) k []
def sumTo (xs : List (List Int)) (k : Nat) : Nat := foldTo (fun k l => l + (xs.getD k []).length) k 0
theorem flatTo_length (xs : List (List Int)) : ∀ k, (flatTo xs k).length = sumTo xs k
  | 0 => rfl
  | k + 1 => by
    show (flatTo xs k ++ xs.getD k []).length = sumTo xs k + (xs.getD k []).length
    rw [List.length_append, flatTo_length xs k]
theorem sumTo_mono (xs : List (List Int)) {k m : Nat} (h : k ≤ m) : sumTo xs k ≤ sumTo xs m := by
  obtain ⟨d, rfl⟩ := Nat.exists_eq_add_of_le h
  clear h
  induction d with
  | zero => exact Nat.le_refl _
  | succ d ih => exact Nat.le_trans ih (Nat.le_add_right _ _)
def CatPost (x : List Int) (w : World) (e : Ending) (w' : World) : Prop := ∃ A c, e = .returned (.slice A x.length c) ∧ OwnI w.heap.size w' (.slice A x.length c) x ∧ Below w.heap.size w w'
set_option maxRecDepth 100000 in
set_option maxHeartbeats 1000000 in
theorem concat100_any (w : World) (v : Value) (xs : List (List Int)) (h : Tab w v xs) (hl : sumTo xs xs.length ≤ 1000000) : Calls Try.prog 100 #[v] w (CatPost (flatTo xs xs.length) w) := by
  obtain ⟨A0, c0, rfl, hc1, hc2, hc⟩ := h.open_
  have HC := Lib.hid hc
  clear hc h
  have hx0 : (0 : Int) ≤ (xs.length : Int) := Int.natCast_nonneg _
  go_enter Try.func100, Try.ntmps100
  go_wp2_with fail
  go_loop [3, 11] (fun so i => ∃ k n : Nat, i = .int .i64 k ∧ k ≤ xs.length ∧ so = .int .i64 n ∧ Hid (n = sumTo xs k)) (fun _ i => xs.length - (intOf i).toNat)
  case atStart => exact ⟨0, 0, rfl, by omega, rfl, Lib.hid rfl⟩
  case round =>
    obtain ⟨k, n, rfl, hk, rfl, HN⟩ := hrel
    have hk0 : (0 : Int) ≤ (k : Int) := Int.natCast_nonneg _
    have hn0 : (0 : Int) ≤ (n : Int) := Int.natCast_nonneg _
    by_cases hlt : k < xs.length
    · have hlt' : (k : Int) < (xs.length : Int) := by omega
      obtain ⟨b, o, rfl, hcc⟩ := HC.out (by omega)
      obtain ⟨u, hu, hI⟩ := hcc k hlt
      obtain ⟨A5, c5, rfl, h1, h2, h3⟩ := hI.open_
      have hst : sumTo xs (k + 1) = sumTo xs k + (xs.getD k []).length := rfl
      have hmo := sumTo_mono xs (k := k + 1) (m := xs.length) (by omega)
      have hb : (n : Int) + ((xs.getD k []).length : Int) ≤ 1000000 := by have := HN.out; omega
      have HN2 : Hid (n + (xs.getD k []).length = sumTo xs (k + 1)) := Lib.hid (by rw [hst, HN.out])
      clear hcc hI h3 hst hmo
      generalize (xs.getD k []).length = q at *
      have hq0 : (0 : Int) ≤ (q : Int) := Int.natCast_nonneg _
      go_wp2_with fail
      go_round
      case rel => exact ⟨k + 1, n + q, by go_num, by omega, by go_num, HN2⟩
      case measure => simp [intOf]; omega
    · obtain rfl : k = xs.length := by omega
      have HG := Lib.hid (grow135_any w n (by have := HN.out; omega))
      go_wp2_with (go_at_call 135; (refine HG.out.mono ?_); rintro e w1 ⟨A1, c1, rfl, ho, hb⟩; have HO := Lib.hid ho; have HB := Lib.hid hb; clear ho hb)
      go_loopw [6, 27] (fun so i wr => ∃ k n : Nat, i = .int .i64 k ∧ k ≤ xs.length ∧ Hid (n = (flatTo xs k).length) ∧ ∃ A c, so = .slice A n c ∧ Hid (OwnI w.heap.size wr so (flatTo xs k) ∧ Below w.heap.size w wr)) (fun _ i _ => xs.length - (intOf i).toNat)
      case atStart => exact ⟨0, 0, rfl, by omega, Lib.hid rfl, _, _, rfl, Lib.hid ⟨HO.out, HB.out⟩⟩
      case round =>
        clear HO HB HG HN hn0 hk0
        obtain ⟨k, n, rfl, hk, HN, A, c, rfl, HS⟩ := hrel
        have hk0 : (0 : Int) ≤ (k : Int) := Int.natCast_nonneg _
        by_cases hlt : k < xs.length
        · have hlt' : (k : Int) < (xs.length : Int) := by omega
          obtain ⟨b, o, rfl, hcc⟩ := HC.out (by omega)
          obtain ⟨u, hu, hI⟩ := hcc k hlt
          have hu' := (HS.out.2.cell (p := ⟨b, o + k, none⟩) (World.block_lt_of_cell? w _ hu)).trans hu
          have hmo := sumTo_mono xs (k := k + 1) (m := xs.length) (by omega)
          have hst : sumTo xs (k + 1) = sumTo xs k + (xs.getD k []).length := rfl
          have hfl := flatTo_length xs k
          obtain ⟨A', c', w', hr, ho, hg, -⟩ := run_append_ints 25 25 Try.underlying25 wr w.heap.size (.slice A n c) u (flatTo xs k) (xs.getD k []) HS.out.1 (hI.below HS.out.2) (by omega) (by omega) HS.out.2.size
          have hs2 : flatTo xs k ++ xs.getD k [] = flatTo xs (k + 1) := rfl
          rw [hs2] at hr ho
          have HR := Lib.hid hr
          have HS2 : Hid (OwnI w.heap.size w' (.slice A' (flatTo xs (k + 1)).length c') (flatTo xs (k + 1)) ∧ Below w.heap.size w w') := Lib.hid ⟨ho, HS.out.2.grown hg HS.out.2.size (fun r hr => (owns_block HS.out.1 r hr).1)⟩
          clear hcc hu hI hmo hst hfl hr ho hg hs2
          go_wp2_with ((with_reducible refine wpList_sel 33 ?_); refine wpList_val rfl (r_app (.tmp 31) (.tmp 32) 25 rfl rfl rfl HR.out) ?_)
          go_roundw
          case rel => exact ⟨k + 1, _, by go_num, by omega, Lib.hid rfl, _, _, rfl, HS2⟩
          case measure => simp [intOf]; omega
        · obtain rfl : k = xs.length := by omega
          go_wp2_with fail
          go_ret
          exact ⟨A, c, by rw [← HN.out]; rfl, by rw [← HN.out]; exact HS.out.1, HS.out.2⟩
theorem tab_two (w : World) (u v : Value) (x y : List Int) (hu : IntsAt w u x) (hv : IntsAt w v y) {e : TypeId} : Tab (w.alloc (.cells #[u, v] e)) (.slice (some ⟨w.heap.size, 0, none⟩) 2 2) [x, y] := by
  have hb : Below w.heap.size w (w.alloc (.cells #[u, v] e)) := (Below.refl _ _).alloc (Nat.le_refl _) _
  refine ⟨[u, v], ⟨_, 2, 2, rfl, rfl, Nat.le_refl _, by simp [maxLen], fun _ => ⟨w.heap.size, 0, rfl, fun j z hz => ?_⟩⟩, rfl, fun i hi => ?_⟩
  · rw [cell_of_row _ _ _ _ _ _ (heap_alloc_new w _), Nat.zero_add]
    simpa using hz
  · have : i = 0 ∨ i = 1 := by simp at hi; omega
    rcases this with rfl | rfl
    · exact ⟨u, rfl, hu.below hb⟩
    · exact ⟨v, rfl, hv.below hb⟩
set_option maxRecDepth 100000 in
theorem mul41_any (w : World) (u v : Value) (x y : List Int) (hu : IntsAt w u x) (hv : IntsAt w v y) (hmx : ∀ z ∈ x, Mild z) (hmy : ∀ z ∈ y, Mild z) (hl : x.length + y.length ≤ 100000) : Calls Try.prog 41 #[u, v] w (RedPost (x ++ y) w) := by
  obtain ⟨A0, c0, rfl, h1, h2, h3⟩ := hu.open_
  obtain ⟨A1, c1, rfl, k1, k2, k3⟩ := hv.open_
  clear h3 k3
  have hb : Below w.heap.size w (w.alloc (.cells #[.slice A0 x.length c0, .slice A1 y.length c1] 25)) := (Below.refl _ _).alloc (Nat.le_refl _) _
  have hcat := concat100_any _ _ [x, y] (tab_two w _ _ x y hu hv (e := 25)) (by simp [sumTo, foldTo]; omega)
  have hfl : flatTo [x, y] ([x, y] : List (List Int)).length = x ++ y := by simp [flatTo, foldTo]
  rw [hfl] at hcat
  have HC := Lib.hid hcat
  have HB := Lib.hid hb
  have HM : Hid (∀ z ∈ x ++ y, Mild z) := Lib.hid fun z hz => (List.mem_append.1 hz).elim (hmx z) (hmy z)
  have HL : Hid ((x ++ y).length ≤ 100000) := Lib.hid (by rw [List.length_append]; exact hl)
  clear hcat hb hu hv hmx hmy hfl
  generalize x ++ y = z at *
  go_enter Try.func41, Try.ntmps41
  go_wp2_with (first
    | (go_at_call 100
       (refine HC.out.mono ?_)
       rintro e w1 ⟨A, c, rfl, ho, hb⟩
       have HR := Lib.hid (reduce99_any w1 _ z (ho.ints (Mild.fits HM.out)) HM.out HL.out)
       have HB1 := Lib.hid (HB.out.trans (hb.mono HB.out.size))
       clear ho hb)
    | (go_at_call 99
       (refine HR.out.mono ?_)
       rintro e w2 ⟨A, c, rfl, ho, hb⟩
       have HO := Lib.hid ho
       have HB2 := Lib.hid hb
       clear ho hb))
  go_ret
  exact RedPost.base HB1.out ⟨_, _, rfl, HO.out, HB2.out⟩
end Go.Proofs
namespace Go.Proofs
open Go.RowKit Go.Shelf Go.Proofs.Ct
set_option maxRecDepth 100000 in
theorem inverse151_any (w : World) (x : Int) (hx : Mild x) : Calls Try.prog 151 #[.int .i64 x] w fun e w' => e = .returned (.int .i64 (-x)) ∧ w = w' := by
  obtain ⟨h1, h2⟩ := hx
  have d1 : (x == -9223372036854775808) = false := by simp; omega
  go_enter Try.func151, Try.ntmps151
  go_wp2_with fail
  go_ret
  exact ⟨rfl, rfl⟩
theorem take_rev_succ {w : List Int} {k : Nat} (h : k < w.length) : (inv w).take (k + 1) = (inv w).take k ++ [-(w.getD (w.length - 1 - k) 0)] := by
  have hk : k < (inv w).length := by rw [length_inv]; exact h
  rw [List.take_succ_eq_append_getElem hk]
  have h2 : w.length - 1 - k < w.length := by omega
  simp [inv, List.getElem_reverse, List.getD_eq_getElem?_getD, h2]
set_option maxRecDepth 100000 in
set_option maxHeartbeats 1000000 in
theorem turned137_any (w : World) (v : Value) (x : List Int) (h : IntsAt w v x) (hm : ∀ z ∈ x, Mild z) (hl : x.length ≤ 100000) :
    Calls Try.prog 137 #[v] w fun e w' => (∃ u, e = .returned u ∧ IntsAt w' u (inv x)) ∧ Below w.heap.size w w' := by
  obtain ⟨A0, c0, rfl, hc1, hc2, hc⟩ := h.open_
  have HC := Lib.hid hc
  have HM := Lib.hid hm
  clear hc h hm
  have hx0 : (0 : Int) ≤ (x.length : Int) := Int.natCast_nonneg _
  have hx3 : (x.length : Int) ≤ 100000 := by omega
  go_enter Try.func137, Try.ntmps137
  go_wp2_with fail
  go_loopw [3, 4] (fun so i wr => ∃ k : Nat, i = .int .i64 ((x.length : Int) - 1 - k) ∧ k ≤ x.length ∧ ∃ A c, so = .slice A k c ∧ Hid (OwnI w.heap.size wr so ((inv x).take k) ∧ Below w.heap.size w wr)) (fun _ i _ => (intOf i + 1).toNat)
  case atStart => exact ⟨0, by simp, by omega, none, 0, rfl, Lib.hid ⟨World.ownsRow_nil _ _ _ _, Below.refl _ _⟩⟩
  case round =>
    obtain ⟨k, rfl, hk, A, c, rfl, HS⟩ := hrel
    have hk0 : (0 : Int) ≤ (k : Int) := Int.natCast_nonneg _
    have htl : ((inv x).take k).length = k := by rw [List.length_take, length_inv]; omega
    have HTL := Lib.hid htl
    clear htl
    by_cases hlt : k < x.length
    · have hlt' : (k : Int) < (x.length : Int) := by omega
      obtain ⟨b, o, rfl, hcc⟩ := HC.out (by omega)
      obtain ⟨d, hd⟩ : ∃ d : Nat, x.length = d + 1 + k := ⟨x.length - 1 - k, by omega⟩
      have hck := hcc d (by omega)
      have hck' := (HS.out.2.cell (p := ⟨b, o + d, none⟩) (World.block_lt_of_cell? w _ hck)).trans hck
      have hmk := Mild.at_ HM.out d
      have HSUC : Hid ((inv x).take (k + 1) = (inv x).take k ++ [-(x.getD d 0)]) := Lib.hid (by rw [take_rev_succ hlt]; rw [show x.length - 1 - k = d by omega])
      clear hcc hck
      generalize x.getD d 0 = z at *
      have hmk' : -4611686018427387903 ≤ z ∧ z ≤ 4611686018427387903 := hmk
      obtain ⟨hz1, hz2⟩ := hmk'
      have hidx : (x.length : Int) - 1 - (k : Int) = (d : Int) := by omega
      have hd0 : (0 : Int) ≤ (d : Int) := Int.natCast_nonneg _
      have hd1 : (d : Int) < (x.length : Int) := by omega
      obtain ⟨A', c', w', hr, ho, hg, -⟩ := push_int 25 25 Try.underlying25 wr w.heap.size (.slice A k c) ((inv x).take k) HS.out.1 (-z) (by have := HTL.out; omega) HS.out.2.size
      rw [HTL.out] at hr ho
      rw [← HSUC.out] at ho
      have HR := Lib.hid hr
      have HS2 : Hid (OwnI w.heap.size w' (.slice A' (k + 1) c') ((inv x).take (k + 1)) ∧ Below w.heap.size w w') := Lib.hid ⟨ho, HS.out.2.grown hg HS.out.2.size (fun r hr => (owns_block HS.out.1 r hr).1)⟩
      have HI := Lib.hid (inverse151_any wr z hmk)
      have HD := Lib.hid hd
      have HIDX := Lib.hid hidx
      rw [hidx]
      clear hd hmk hr ho hg hidx
      go_wp2_with (first
        | (go_at_call 151; (refine HI.out.mono ?_); rintro e w' ⟨rfl, rfl⟩)
        | ((with_reducible refine wpList_sel 19 ?_); refine wpList_val rfl (r_app (.tmp 12) (.tmp 18) 25 rfl rfl rfl HR.out) ?_))
      go_roundw
      case rel => exact ⟨k + 1, congrArg (Value.int .i64) (by have := HIDX.out; omega), by omega, _, _, rfl, HS2⟩
      case measure => have := HIDX.out; simp [intOf] <;> omega
    · obtain rfl : k = x.length := by omega
      have hti : (inv x).take x.length = inv x := List.take_of_length_le (by rw [length_inv]; exact Nat.le_refl _)
      rw [hti] at HS
      have HT := Lib.hid (HS.out.1.ints (Mild.fits (mild_inv HM.out)))
      have hm1 : (x.length : Int) - 1 - (x.length : Int) = -1 := by omega
      rw [hm1]
      clear hti hm1
      go_wp2_with fail
      go_ret
      exact ⟨⟨_, rfl, HT.out⟩, HS.out.2⟩
set_option maxRecDepth 100000 in
theorem invert102_any (w : World) (v : Value) (x : List Int) (h : IntsAt w v x) (hm : ∀ z ∈ x, Mild z) (hl : x.length ≤ 100000) : Calls Try.prog 102 #[v] w (RedPost (inv x) w) := by
  have HC := Lib.hid (turned137_any w v x h hm hl)
  have HM := Lib.hid (mild_inv hm)
  have HL : Hid ((inv x).length ≤ 100000) := Lib.hid (by rw [length_inv]; exact hl)
  clear h hm hl
  go_enter Try.func102, Try.ntmps102
  go_wp2_with (first
    | (go_at_call 137
       (refine HC.out.mono ?_)
       rintro e w1 ⟨⟨u, rfl, hu⟩, hb⟩
       have HR := Lib.hid (reduce120_any w1 u (inv x) hu HM.out HL.out)
       have HB := Lib.hid hb
       clear hu hb)
    | (go_at_call 120
       (refine HR.out.mono ?_)
       rintro e w2 ⟨A, c, rfl, ho, hb⟩
       have HO := Lib.hid ho
       have HB2 := Lib.hid hb
       clear ho hb))
  go_ret
  exact RedPost.base HB.out ⟨A, c, rfl, HO.out, HB2.out⟩
set_option maxRecDepth 100000 in
set_option maxHeartbeats 1000000 in
theorem join136_any (w : World) (v : Value) (xs : List (List Int)) (h : Tab w v xs) (hl : sumTo xs xs.length ≤ 1000000) : Calls Try.prog 136 #[v] w (CatPost (flatTo xs xs.length) w) := by
  obtain ⟨A0, c0, rfl, hc1, hc2, hc⟩ := h.open_
  have HC := Lib.hid hc
  clear hc h
  have hx0 : (0 : Int) ≤ (xs.length : Int) := Int.natCast_nonneg _
  go_enter Try.func136, Try.ntmps136
  go_wp2_with fail
  go_loopw [3, 4] (fun so i wr => ∃ k n : Nat, i = .int .i64 k ∧ k ≤ xs.length ∧ Hid (n = (flatTo xs k).length) ∧ ∃ A c, so = .slice A n c ∧ Hid (OwnI w.heap.size wr so (flatTo xs k) ∧ Below w.heap.size w wr)) (fun _ i _ => xs.length - (intOf i).toNat)
  case atStart => exact ⟨0, 0, rfl, by omega, Lib.hid rfl, none, 0, rfl, Lib.hid ⟨World.ownsRow_nil _ _ _ _, Below.refl _ _⟩⟩
  case round =>
    obtain ⟨k, n, rfl, hk, HN, A, c, rfl, HS⟩ := hrel
    have hk0 : (0 : Int) ≤ (k : Int) := Int.natCast_nonneg _
    by_cases hlt : k < xs.length
    · have hlt' : (k : Int) < (xs.length : Int) := by omega
      obtain ⟨b, o, rfl, hcc⟩ := HC.out (by omega)
      obtain ⟨u, hu, hI⟩ := hcc k hlt
      have hu' := (HS.out.2.cell (p := ⟨b, o + k, none⟩) (World.block_lt_of_cell? w _ hu)).trans hu
      have hmo := sumTo_mono xs (k := k + 1) (m := xs.length) (by omega)
      have hst : sumTo xs (k + 1) = sumTo xs k + (xs.getD k []).length := rfl
      have hfl := flatTo_length xs k
      obtain ⟨A', c', w', hr, ho, hg, -⟩ := run_append_ints 25 25 Try.underlying25 wr w.heap.size (.slice A n c) u (flatTo xs k) (xs.getD k []) HS.out.1 (hI.below HS.out.2) (by omega) (by omega) HS.out.2.size
      have hs2 : flatTo xs k ++ xs.getD k [] = flatTo xs (k + 1) := rfl
      rw [hs2] at hr ho
      have HR := Lib.hid hr
      have HS2 : Hid (OwnI w.heap.size w' (.slice A' (flatTo xs (k + 1)).length c') (flatTo xs (k + 1)) ∧ Below w.heap.size w w') := Lib.hid ⟨ho, HS.out.2.grown hg HS.out.2.size (fun r hr => (owns_block HS.out.1 r hr).1)⟩
      clear hcc hu hI hmo hst hfl hr ho hg hs2
      go_wp2_with ((with_reducible refine wpList_sel 16 ?_); refine wpList_val rfl (r_app (.tmp 11) (.tmp 15) 25 rfl rfl rfl HR.out) ?_)
      go_roundw
      case rel => exact ⟨k + 1, _, by go_num, by omega, Lib.hid rfl, _, _, rfl, HS2⟩
      case measure => simp [intOf]; omega
    · obtain rfl : k = xs.length := by omega
      go_wp2_with fail
      go_ret
      exact ⟨A, c, by rw [← HN.out]; rfl, by rw [← HN.out]; exact HS.out.1, HS.out.2⟩
set_option maxRecDepth 100000 in
theorem mul101_any (w : World) (u v : Value) (x y : List Int) (hu : IntsAt w u x) (hv : IntsAt w v y) (hmx : ∀ z ∈ x, Mild z) (hmy : ∀ z ∈ y, Mild z) (hl : x.length + y.length ≤ 100000) : Calls Try.prog 101 #[u, v] w (RedPost (x ++ y) w) := by
  obtain ⟨A0, c0, rfl, h1, h2, h3⟩ := hu.open_
  obtain ⟨A1, c1, rfl, k1, k2, k3⟩ := hv.open_
  clear h3 k3
  have hb : Below w.heap.size w (w.alloc (.cells #[.slice A0 x.length c0, .slice A1 y.length c1] 25)) := (Below.refl _ _).alloc (Nat.le_refl _) _
  have hcat := join136_any _ _ [x, y] (tab_two w _ _ x y hu hv (e := 25)) (by simp [sumTo, foldTo]; omega)
  have hfl : flatTo [x, y] ([x, y] : List (List Int)).length = x ++ y := by simp [flatTo, foldTo]
  rw [hfl] at hcat
  have HC := Lib.hid hcat
  have HB := Lib.hid hb
  have HM : Hid (∀ z ∈ x ++ y, Mild z) := Lib.hid fun z hz => (List.mem_append.1 hz).elim (hmx z) (hmy z)
  have HL : Hid ((x ++ y).length ≤ 100000) := Lib.hid (by rw [List.length_append]; exact hl)
  clear hcat hb hu hv hmx hmy hfl
  generalize x ++ y = z at *
  go_enter Try.func101, Try.ntmps101
  go_wp2_with (first
    | (go_at_call 136
       (refine HC.out.mono ?_)
       rintro e w1 ⟨A, c, rfl, ho, hb⟩
       have HR := Lib.hid (reduce120_any w1 _ z (ho.ints (Mild.fits HM.out)) HM.out HL.out)
       have HB1 := Lib.hid (HB.out.trans (hb.mono HB.out.size))
       clear ho hb)
    | (go_at_call 120
       (refine HR.out.mono ?_)
       rintro e w2 ⟨A, c, rfl, ho, hb⟩
       have HO := Lib.hid ho
       have HB2 := Lib.hid hb
       clear ho hb))
  go_ret
  exact RedPost.base HB1.out ⟨_, _, rfl, HO.out, HB2.out⟩
end Go.Proofs
namespace Go.Proofs
open Go.RowKit Go.Shelf Go.Proofs.Ct Go.Maps Go.WideMaps
theorem laidOutT : laidOutB Try.prog = true := by kernel_rfl
theorem row102 : (102 : TypeId) < Try.prog.types.size := of_decide_eq_true (by kernel_rfl)
theorem law102 : Keyed Try.prog 102 := Keyed.of_law (deep_law_laid laidOutT (m := 2) (by omega) row102 (by kernel_rfl) (by
  have h := Try.underlying102
  generalize Try.prog.underlying 102 = u at *
  subst h
  rfl))
theorem cells102 : Try.prog.cellsOf 102 = 2 := by kernel_rfl
theorem formed102 {c0 c1 : Value} : (Value.agg #[c0, c1]).formed Try.prog 102 = true := by simp [Value.formed, Try.underlying102, cells102]
theorem cells3 : Try.prog.cellsOf 3 = 1 := by kernel_rfl
theorem lits3 {a : Int} (ha : I64 a) (d : Nat) : Try.prog.keyLits (d + 1) 3 [.int .i64 a] = some [.int .i64 a] := by
  have wa := WalkArith.wf_i64 ha
  unfold Program.keyLits
  rw [Try.underlying3]
  simp [wa]
theorem lits102 {a b : Int} (ha : I64 a) (hb : I64 b) (d : Nat) : Try.prog.keyLits (d + 2) 102 [.int .i64 a, .int .i64 b] = some [.int .i64 a, .int .i64 b] := by
  have h := Try.underlying102
  unfold Program.keyLits
  generalize Try.prog.underlying 102 = u at *
  subst h
  simp only [cells102, cells3, List.length_cons, List.length_nil, if_true]
  have h1 := lits3 ha d
  have h2 := lits3 hb d
  simp [List.range_succ, h1, h2]
theorem keyType102 : Try.prog.keyType 102 = true := by kernel_rfl
theorem key102 {a b : Int} (ha : I64 a) (hb : I64 b) : ∃ l, keyOf Try.prog 102 (.agg #[.int .i64 a, .int .i64 b]) = some l := by
  obtain ⟨d, hd⟩ : ∃ d, Try.prog.types.size + 1 = d + 2 := ⟨Try.prog.types.size - 1, by have : (102 : Nat) < Try.prog.types.size := row102; omega⟩
  have hl := lits102 ha hb d
  refine ⟨.string (keyBytes [.int .i64 a, .int .i64 b]), ?_⟩
  have h := Try.underlying102
  have hf : (Value.agg #[.int .i64 a, .int .i64 b]).formed Try.prog 102 = true := formed102
  unfold keyOf
  rw [keyType102, hf, hd]
  generalize Try.prog.underlying 102 = u at *
  subst h
  simp [Value.cells, hl]
end Go.Proofs
namespace Go.Proofs
open Go.RowKit Go.Shelf Go.Proofs.Ct Go.Maps
def pkey (r g : Nat) : Value := .agg #[.int .i64 (r : Int), .int .i64 ((g + 1 : Nat) : Int)]
def Sml (r g : Nat) : Prop := r ≤ 1000000 ∧ g ≤ 1000000
theorem pkey_lit {r g : Nat} (h : Sml r g) : ∃ l, keyOf Try.prog 102 (pkey r g) = some l := key102 ⟨by omega, by have := h.1; omega⟩ ⟨by omega, by have := h.2; omega⟩
theorem pkey_inj {r g r' g' : Nat} {l : Lit} (h : keyOf Try.prog 102 (pkey r g) = some l) (h' : keyOf Try.prog 102 (pkey r' g') = some l) : r = r' ∧ g = g' := by
  have := law102.inj h h'
  unfold pkey at this
  injection this with h1
  have h2 : (r : Int) = r' := by have := congrArg (fun a : Array Value => a[0]?) h1; simpa using this
  have h3 : ((g + 1 : Nat) : Int) = ((g' + 1 : Nat) : Int) := by have := congrArg (fun a : Array Value => a[1]?) h1; simpa using this
  omega
/-- block b is a map from the pairs of ps to their places, from 1 on -/
def MapP (w : World) (b : Nat) (ps : List (Nat × Nat)) : Prop :=
  ∃ n D, n ≤ ps.length ∧ w.ownsMap (H := Unit) Try.prog 102 (plainElem Try.prog 3) b n D ∧
    ∀ r g l, Sml r g → keyOf Try.prog 102 (pkey r g) = some l → D.atKey l (.lit (.int .i64 0)) = .lit (.int .i64 (placeP ps r g))
theorem MapP.made (w : World) : MapP (w.alloc (.map #[] 0)) w.heap.size [] :=
  ⟨0, .map [], Nat.le_refl _, World.ownsMap_made _ _ _ _, fun r g l _ _ => by simp [placeP, DataW.atKey]⟩
theorem MapP.kept {w w' : World} {b : Nat} {ps : List (Nat × Nat)} {row : Option Nat} (h : MapP w b ps) (hg : w.grownBy w' row) (hne : row ≠ some b) : MapP w' b ps := by
  obtain ⟨n, D, h1, h2, h3⟩ := h
  exact ⟨n, D, h1, h2.kept hg (Ne.symm hne), h3⟩
theorem MapP.lt {w : World} {b : Nat} {ps : List (Nat × Nat)} (h : MapP w b ps) : b < w.heap.size := by
  obtain ⟨n, D, h1, h2, h3⟩ := h
  exact h2.lt
theorem MapP.below {w w' : World} {b : Nat} {ps : List (Nat × Nat)} (h : MapP w b ps) (hb : Below w.heap.size w w') : MapP w' b ps :=
  h.kept (row := none) ⟨hb.os, hb.tape, hb.output, hb.size, fun k hk _ => hb.block k hk⟩ (by simp)
theorem MapP.isMapObj {w : World} {b : Nat} {ps : List (Nat × Nat)} (h : MapP w b ps) : ∃ es clock, w.heap[b]? = some (.map es clock) := by
  obtain ⟨n, D, h1, ⟨es, clock, hb, -⟩, h3⟩ := h
  exact ⟨es, clock, hb⟩
theorem MapP.look {w : World} {b : Nat} {ps : List (Nat × Nat)} (h : MapP w b ps) {r g : Nat} (hs : Sml r g) : (Instr.lookup 90 (.map (some b)) (pkey r g) false).run Try.prog w = .ok (.int .i64 (placeP ps r g)) w := by
  obtain ⟨n, D, h1, h2, h3⟩ := h
  obtain ⟨l, hl⟩ := pkey_lit hs
  obtain ⟨c, hr, hat, -⟩ := h2.lookup_int law102 Try.underlying90 Try.underlying3 (zero3 w) hl
  rw [h3 r g l hs hl] at hat
  have : placeP ps r g = c := by simpa using hat
  rw [this]
  exact hr
theorem placeP_new {ps : List (Nat × Nat)} {r g : Nat} (hn : (r, g) ∉ ps) : placeP (ps ++ [(r, g)]) r g = (ps.length : Int) + 1 := by
  unfold placeP
  rw [if_pos (by simp), List.idxOf_append, if_neg hn]
  simp
theorem placeP_old {ps : List (Nat × Nat)} {r g r' g' : Nat} (hne : ¬ (r' = r ∧ g' = g)) : placeP (ps ++ [(r, g)]) r' g' = placeP ps r' g' := by
  unfold placeP
  have hne' : (r', g') ≠ (r, g) := fun e => hne ⟨congrArg Prod.fst e, congrArg Prod.snd e⟩
  by_cases hm : (r', g') ∈ ps
  · rw [if_pos hm, if_pos (by simp [hm]), List.idxOf_append, if_pos hm]
  · rw [if_neg hm, if_neg (by simp [hm]; exact fun e h => hne ⟨e, h⟩)]
theorem MapP.put {w : World} {b : Nat} {ps : List (Nat × Nat)} (h : MapP w b ps) {r g : Nat} (hs : Sml r g) (hl : ps.length ≤ 1000000) (hn : (r, g) ∉ ps) :
    ∃ w', (Instr.mapUpdate 90 (.map (some b)) (pkey r g) (.int .i64 ((ps.length : Int) + 1))).run Try.prog w = .ok () w' ∧ MapP w' b (ps ++ [(r, g)]) ∧ w.grownBy w' (some b) := by
  obtain ⟨n, D, h1, h2, h3⟩ := h
  obtain ⟨l, hkl⟩ := pkey_lit hs
  obtain ⟨w', hr, ho, hg⟩ := h2.update (val := .int .i64 ((ps.length : Int) + 1)) law102 Try.underlying90 (by unfold maxLen; omega) hkl (plainElem_int Try.underlying3 (WalkArith.wf_i64 (by omega)))
  refine ⟨w', hr, ⟨n + 1, _, by simp; omega, ho, fun r' g' l' hs' hl' => ?_⟩, hg⟩
  by_cases e : r' = r ∧ g' = g
  · obtain ⟨rfl, rfl⟩ := e
    have : l' = l := by rw [hkl] at hl'; exact (Option.some.inj hl').symm
    subst this
    rw [Maps.atKey_put_same h2.isMap (law102.key hkl), placeP_new hn]
  · have hne : l' ≠ l := fun e' => e (by subst e'; exact pkey_inj hl' hkl)
    rw [Maps.atKey_put_other hne, h3 r' g' l' hs' hl', placeP_old e]
/-- the cells of a list of pairs -/
def pcells (ps : List (Nat × Nat)) : List Value := ps.flatMap fun p => [.int .i64 (p.1 : Int), .int .i64 ((p.2 + 1 : Nat) : Int)]
theorem pcells_snoc (ps : List (Nat × Nat)) (p : Nat × Nat) : pcells (ps ++ [p]) = pcells ps ++ [.int .i64 (p.1 : Int), .int .i64 ((p.2 + 1 : Nat) : Int)] := by simp [pcells]
theorem pcells_get : ∀ (ps : List (Nat × Nat)) (j : Nat), j < ps.length → (pcells ps)[j * 2]? = some (.int .i64 ((ps.getD j (0, 0)).1 : Int)) ∧ (pcells ps)[j * 2 + 1]? = some (.int .i64 (((ps.getD j (0, 0)).2 + 1 : Nat) : Int))
  | [], j, h => absurd h (by simp)
  | p :: ps, 0, _ => ⟨rfl, rfl⟩
  | p :: ps, j + 1, h => by
    have ih := pcells_get ps j (by simpa using h)
    have : pcells (p :: ps) = [.int .i64 (p.1 : Int), .int .i64 ((p.2 + 1 : Nat) : Int)] ++ pcells ps := rfl
    rw [this, show (j + 1) * 2 = j * 2 + 2 by omega, show j * 2 + 2 + 1 = (j * 2 + 1) + 2 by omega]
    constructor
    · rw [List.getElem?_append_right (by simp)]
      simpa using ih.1
    · rw [List.getElem?_append_right (by simp)]
      simpa using ih.2
abbrev OwnP (base : Nat) (w : World) (v : Value) (ps : List (Nat × Nat)) : Prop := w.ownsRow base 102 2 v ps.length (pcells ps)
theorem info102p : ∃ i, Try.prog.info? 102 = some i ∧ i.zero = some (.agg #[.int .i64 0, .int .i64 0]) ∧ i.size = 2 ∧ i.bytes = 16 := by
  have h : (Try.prog.info? 102).map (fun i => (i.zero, i.size, i.bytes)) = some (some (.agg #[.int .i64 0, .int .i64 0]), 2, 16) := by kernel_rfl
  cases hq : Try.prog.info? 102 with
  | none => simp [hq] at h
  | some i => simp [hq] at h; exact ⟨i, rfl, h⟩
theorem owns_form2 {w : World} {base e size n : Nat} {v : Value} {xs : List Value} (h : w.ownsRow base e size v n xs) : ∃ A c, v = .slice A n c := by
  rcases h.2 with ⟨rfl, rfl⟩ | ⟨g, cap, cur, rfl, -⟩
  · exact ⟨none, 0, rfl⟩
  · exact ⟨_, _, rfl⟩
theorem owns_block2 {w : World} {base e size n : Nat} {v : Value} {xs : List Value} (h : w.ownsRow base e size v n xs) : ∀ r, v.ownBlock = some r → base ≤ r ∧ ∃ C, w.heap[r]? = some (.cells C e (0, 0)) := fun r hr => by
  rcases h.2 with ⟨rfl, -⟩ | ⟨g, cap, cur, rfl, hb, hg, -⟩
  · cases hr
  · have : g = r := Option.some.inj hr
    subst this
    exact ⟨hb, cur, hg⟩
theorem push_pair (w : World) (base : Nat) (v : Value) (ps : List (Nat × Nat)) (h : OwnP base w v ps) (p : Nat × Nat) (hx : ps.length ≤ 1000000) (hb : base ≤ w.heap.size) :
    ∃ A' c' w', (Builtin.append_ #[91, 91] 91 #[v, .slice (some ⟨w.heap.size, 0, none⟩) 1 1]).run Try.prog (w.alloc (.cells #[.int .i64 (p.1 : Int), .int .i64 ((p.2 + 1 : Nat) : Int)] 102)) = .ok (.slice A' (ps.length + 1) c') w' ∧ OwnP base w' (.slice A' (ps.length + 1) c') (ps ++ [p]) ∧
      w.grownBy w' v.ownBlock := by
  obtain ⟨i, hi, hz, hs, hby⟩ := info102p
  have hal : Below w.heap.size w (w.alloc (.cells #[.int .i64 (p.1 : Int), .int .i64 ((p.2 + 1 : Nat) : Int)] 102)) := (Below.refl _ _).alloc (Nat.le_refl _) _
  obtain ⟨v', w', hr, hown', hg, -, hw⟩ := run_append_own_at (P := Try.prog) (w.alloc (.cells #[.int .i64 (p.1 : Int), .int .i64 ((p.2 + 1 : Nat) : Int)] 102)) base 91 91 102 i (.agg #[.int .i64 0, .int .i64 0]) 2 16 Try.underlying91 hi hz hs hby rfl (by omega) v ps.length (pcells ps) (owns_below h hal) ⟨w.heap.size, 0, none⟩ 1 1 [.int .i64 (p.1 : Int), .int .i64 ((p.2 + 1 : Nat) : Int)] rfl
    (fun j u hj => by
      rw [Addr.add_lit, cell_of_row _ _ _ _ _ _ (heap_alloc_new w _), Nat.zero_add]
      simpa using hj) (fun u hu => by
      have : u = .int .i64 (p.1 : Int) ∨ u = .int .i64 ((p.2 + 1 : Nat) : Int) := by simpa using hu
      rcases this with rfl | rfl <;> rfl) (by unfold maxLen; omega) (by omega) (by have := hal.size; omega)
  obtain ⟨A', c', rfl⟩ := owns_form2 hown'
  refine ⟨A', c', w', hr, ?_, ?_⟩
  · unfold OwnP
    rw [List.length_append, pcells_snoc]
    exact hown'
  · exact ⟨hg.os, hg.tape, hg.output, Nat.le_trans hal.size hg.size, fun k hk hne => (hg.block k (Nat.lt_of_lt_of_le hk hal.size) hne).trans (hal.block k hk)⟩
end Go.Proofs
namespace Go.Proofs
open Go.RowKit Go.Shelf Go.Proofs.Ct Go.Maps
/-- the column of a letter -/
def ColOf (x : Int) (c : Nat) : Prop := (0 < x ∧ 2 * x - 2 = (c : Int)) ∨ (x < 0 ∧ -2 * x - 1 = (c : Int))
set_option maxRecDepth 100000 in
theorem step70_any (w : World) (vt : Value) (A1 : Option Addr) (n1 c1 : Nat) (t : Tb) (r : Nat) (x : Int) (c : Nat) (ht : Tab w vt t) (hr : r < t.length) (hc : c < (t.row r).length) (hx : ColOf x c) (hb : -1000 ≤ x ∧ x ≤ 1000) :
    Calls Try.prog 70 #[.agg #[vt, .slice A1 n1 c1], .int .i64 (r : Int), .int .i64 x] w fun e w' => e = .returned (.int .i64 (t.at r c)) ∧ Below w.heap.size w w' := by
  obtain ⟨A0, c0, rfl, h1, h2, h3⟩ := ht.open_
  obtain ⟨bt, ot, rfl, h4⟩ := h3 (by omega)
  obtain ⟨u, hu, hI⟩ := h4 r hr
  have hI2 : IntsAt w u (t.row r) := hI
  obtain ⟨Au, cu, rfl, hu1, hu2, huc⟩ := hI2.open_
  obtain ⟨bu, ou, rfl, huc'⟩ := huc (by omega)
  have hcc := huc' c hc
  have hb1 : bt < w.heap.size := World.block_lt_of_cell? w _ hu
  have hb2 : bu < w.heap.size := World.block_lt_of_cell? w _ hcc
  have hbel : Below w.heap.size w (w.alloc (.cells #[.slice (some ⟨bt, ot, none⟩) t.length c0, .slice A1 n1 c1] 89)) := (Below.refl _ _).alloc (Nat.le_refl _) _
  have hu' := (hbel.cell (p := ⟨bt, ot + r, none⟩) hb1).trans hu
  have hcc' := (hbel.cell (p := ⟨bu, ou + c, none⟩) hb2).trans hcc
  have HB := Lib.hid hbel
  have hat : (t.row r).getD c 0 = t.at r c := rfl
  rw [hat] at hcc hcc'
  have hr0 : (0 : Int) ≤ (r : Int) := Int.natCast_nonneg _
  have hr1 : (r : Int) < (t.length : Int) := by omega
  have hc0 : (0 : Int) ≤ (c : Int) := Int.natCast_nonneg _
  have hc1' : (c : Int) < ((t.row r).length : Int) := by omega
  obtain ⟨hx1, hx2⟩ := hb
  clear h3 h4 hI hI2 huc huc' hat ht hbel
  generalize t.at r c = y at *
  rcases hx with ⟨hp, he⟩ | ⟨hp, he⟩
  · have hm : max (2 * x - 2) (-2 * x - 1) = (c : Int) := by omega
    have hle : (-2 * x - 1) ≤ (2 * x - 2) := by omega
    go_enter Try.func70, Try.ntmps70
    go_wp2_with fail
    go_ret
    exact ⟨rfl, HB.out⟩
  · have hm : max (2 * x - 2) (-2 * x - 1) = (c : Int) := by omega
    have hle : ¬ (-2 * x - 1) ≤ (2 * x - 2) := by omega
    go_enter Try.func70, Try.ntmps70
    go_wp2_with fail
    go_ret
    exact ⟨rfl, HB.out⟩
set_option maxRecDepth 100000 in
theorem number119_any (w : World) (bm : Nat) (A1 : Option Addr) (n1 c1 : Nat) (ps : List (Nat × Nat)) (r g : Nat) (hm : MapP w bm ps) (hs : Sml r g) :
    Calls Try.prog 119 #[.agg #[.map (some bm), .slice A1 n1 c1], .int .i64 (r : Int), .int .i64 ((g + 1 : Nat) : Int)] w fun e w' => e = .returned (.int .i64 (placeP ps r g)) ∧ Below w.heap.size w w' := by
  have hbel : Below w.heap.size w (w.alloc (.cells #[.map (some bm), .slice A1 n1 c1] 93)) := (Below.refl _ _).alloc (Nat.le_refl _) _
  have hl := (hm.below hbel).look hs
  unfold pkey at hl
  have HB := Lib.hid hbel
  have HL := Lib.hid hl
  clear hm hbel hl
  generalize placeP ps r g = y at *
  generalize ((g + 1 : Nat) : Int) = x at *
  go_enter Try.func119, Try.ntmps119
  go_wp2_with ((with_reducible refine wpList_sel 12 ?_); refine wpList_val rfl (r_look 90 (.tmp 8) (.tmp 11) rfl rfl rfl HL.out) ?_)
  go_ret
  exact ⟨rfl, HB.out⟩
end Go.Proofs
namespace Go.Proofs
open Go.RowKit Go.Shelf Go.Proofs.Ct Go.Maps
theorem IntsAt.take {w : World} {A : Option Addr} {n c : Nat} {xs : List Int} (h : IntsAt w (.slice A n c) xs) {k : Nat} (hk : k ≤ n) : IntsAt w (.slice A k c) (xs.take k) := by
  obtain ⟨⟨A', n', c', e, h2, h3, h4, h5⟩, hf⟩ := h
  obtain ⟨rfl, rfl, rfl⟩ := Value.slice.inj e
  have hl : n = xs.length := by simpa [ints] using h2
  refine ⟨⟨A, k, c, rfl, by simp [ints]; omega, by omega, h4, fun hn => ?_⟩, fun x hx => hf x (List.mem_of_mem_take hx)⟩
  obtain ⟨b, off, ha, hr⟩ := h5 (by omega)
  refine ⟨b, off, ha, fun j v hv => hr j v ?_⟩
  have : ints (xs.take k) = (ints xs).take k := by simp [ints, List.map_take]
  rw [this, List.getElem?_take] at hv
  split at hv
  · exact hv
  · cases hv
theorem snoc_iff {a b : List Int} {x : Int} : b = a ++ [x] ↔ b.length = a.length + 1 ∧ b.getD a.length 0 = x ∧ a = b.take a.length := by
  constructor
  · rintro rfl
    refine ⟨by simp, by simp [List.getD_eq_getElem?_getD], by simp⟩
  · rintro ⟨h1, h2, h3⟩
    have h4 : b.take (a.length + 1) = b := List.take_of_length_le (by omega)
    rw [← h4, List.take_succ_eq_append_getElem (by omega), ← h3]
    congr 1
    rw [List.getD_eq_getElem?_getD, List.getElem?_eq_getElem (by omega)] at h2
    simpa using h2
set_option maxRecDepth 100000 in
set_option maxHeartbeats 1000000 in
theorem grows114_any (w : World) (vr : Value) (A0 A1 : Option Addr) (n0 c0 n1 c1 bm : Nat) (R : List (List Int)) (r to : Nat) (x : Int) (hR : Tab w vr R) (hr : r < R.length) (hto : to < R.length) (hb : ∀ j, (R.getD j []).length ≤ 100000) (hx : -1000 ≤ x ∧ x ≤ 1000) :
    Calls Try.prog 114 #[.agg #[.slice A0 n0 c0, vr, .map (some bm), .slice A1 n1 c1], .int .i64 (r : Int), .int .i64 x, .int .i64 (to : Int)] w fun e w' => e = .returned (.bool (decide (R.getD to [] = R.getD r [] ++ [x]))) ∧ Below w.heap.size w w' := by
  obtain ⟨Ar, cr, rfl, h1, h2, h3⟩ := hR.open_
  obtain ⟨br, or', rfl, h4⟩ := h3 (by omega)
  obtain ⟨ua, hua, hIa⟩ := h4 r hr
  obtain ⟨ub, hub, hIb⟩ := h4 to hto
  obtain ⟨Aa, ca, rfl, ha1, ha2, hac⟩ := hIa.open_
  obtain ⟨Ab, cb, rfl, hb1, hb2, hbc⟩ := hIb.open_
  have hbel : Below w.heap.size w (w.alloc (.cells #[.slice A0 n0 c0, .slice (some ⟨br, or', none⟩) R.length cr, .map (some bm), .slice A1 n1 c1] 95)) := (Below.refl _ _).alloc (Nat.le_refl _) _
  have hblt : br < w.heap.size := World.block_lt_of_cell? w _ hua
  have hua' := (hbel.cell (p := ⟨br, or' + r, none⟩) hblt).trans hua
  have hub' := (hbel.cell (p := ⟨br, or' + to, none⟩) hblt).trans hub
  have hIa' := hIa.below hbel
  have hIb' := hIb.below hbel
  have HB := Lib.hid hbel
  have HSN := Lib.hid (@snoc_iff (R.getD r []) (R.getD to []) x)
  have hbr := hb r
  have hbt := hb to
  have hr0 : (0 : Int) ≤ (r : Int) := Int.natCast_nonneg _
  have hr1 : (r : Int) < (R.length : Int) := by omega
  have ht0 : (0 : Int) ≤ (to : Int) := Int.natCast_nonneg _
  have ht1 : (to : Int) < (R.length : Int) := by omega
  have HF : Hid (∀ k, -9223372036854775808 ≤ (R.getD to []).getD k 0 ∧ (R.getD to []).getD k 0 ≤ 9223372036854775807) := Lib.hid fun k => hIb.2.at_ k
  obtain ⟨hx1, hx2⟩ := hx
  clear h3 h4 hR hIa hIb hbel hac hb
  generalize R.getD r [] = a at *
  generalize R.getD to [] = b at *
  have ha0 : (0 : Int) ≤ (a.length : Int) := Int.natCast_nonneg _
  have ha3 : (a.length : Int) ≤ 100000 := by omega
  have hb3 : (b.length : Int) ≤ 100000 := by omega
  by_cases hl : b.length = a.length + 1
  · obtain ⟨bb, ob, rfl, hbc'⟩ := hbc (by omega)
    have hcx := hbc' a.length (by omega)
    have hcx' := (HB.out.cell (p := ⟨bb, ob + a.length, none⟩) (World.block_lt_of_cell? w _ hcx)).trans hcx
    have hlI : ((b.length : Int) == (a.length : Int) + 1) = true := by simp; omega
    have hlI2 : (a.length : Int) < (b.length : Int) := by omega
    have hcapn : a.length ≤ cb := by omega
    have hcapI : (a.length : Int) ≤ (cb : Int) := by omega
    have hF := HF.out a.length
    have HL := Lib.hid hl
    clear hbc hbc' hl
    by_cases hy : b.getD a.length 0 = x
    · have hyI : (b.getD a.length 0 == x) = true := by simpa using hy
      have HY := Lib.hid hy
      have HQ := Lib.hid (fun q => equal143_any ((w.alloc (.cells #[.slice A0 n0 c0, .slice (some ⟨br, or', none⟩) R.length cr, .map (some bm), .slice A1 n1 c1] 95)).drewN q) _ _ a (b.take a.length) (hIa'.drewN q) ((hIb'.take (by omega)).drewN q))
      have HDEC : Hid (decide (b = a ++ [x]) = decide (a = b.take a.length)) := Lib.hid (decide_eq_decide.2 ⟨fun h => (HSN.out.1 h).2.2, fun h => HSN.out.2 ⟨HL.out, HY.out, h⟩⟩)
      clear hy hIa' hIb'
      generalize b.getD a.length 0 = y at *
      generalize decide (a = b.take a.length) = res at *
      generalize decide (b = a ++ [x]) = res2 at *
      go_enter Try.func114, Try.ntmps114
      go_wp2_with fail
      go_quiet (fail)
      go_wp2_with (go_at_call 143; (refine (HQ.out _).mono ?_); rintro e w' ⟨rfl, q, rfl⟩)
      go_ret
      exact ⟨ret_bool HDEC.out.symm, below_drewN HB.out _⟩
    · have hyI : (b.getD a.length 0 == x) = false := by simpa using hy
      have HDEC : Hid (decide (b = a ++ [x]) = false) := Lib.hid (decide_eq_false fun h => hy (HSN.out.1 h).2.1)
      clear hy hIa' hIb'
      generalize b.getD a.length 0 = y at *
      generalize decide (b = a ++ [x]) = res2 at *
      go_enter Try.func114, Try.ntmps114
      go_wp2_with fail
      go_quiet (fail)
      go_wp2_with fail
      go_ret
      exact ⟨ret_bool HDEC.out.symm, below_drewN HB.out _⟩
  · have hlI : ((b.length : Int) == (a.length : Int) + 1) = false := by simp; omega
    have HDEC : Hid (decide (b = a ++ [x]) = false) := Lib.hid (decide_eq_false fun h => hl (HSN.out.1 h).1)
    clear hl hIa' hIb'
    generalize decide (b = a ++ [x]) = res2 at *
    go_enter Try.func114, Try.ntmps114
    go_wp2_with fail
    go_quiet (fail)
    go_wp2_with fail
    go_ret
    exact ⟨ret_bool HDEC.out.symm, below_drewN HB.out _⟩
end Go.Proofs
namespace Go.Proofs
open Go.RowKit Go.Shelf Go.Proofs.Ct
def RepsPost (g : Int) (t : Tb) (w : World) (e : Ending) (w' : World) : Prop := (∃ u, e = .returned (.tuple #[u, .int .i64 (repsE g t).2]) ∧ TabB w.heap.size w' u (repsE g t).1) ∧ Below w.heap.size w w'
theorem letter_bd {c : Nat} (h : c ≤ 1000) : -1000000 ≤ letter c ∧ letter c ≤ 1000000 := by
  unfold letter
  split <;> omega
theorem fits_snoc {x : List Int} {z : Int} (h : Fits x) (hz : -9223372036854775808 ≤ z ∧ z ≤ 9223372036854775807) : Fits (x ++ [z]) := fun y hy => by
  rcases List.mem_append.1 hy with h' | h'
  · exact h y h'
  · have : y = z := by simpa using h'
    rw [this]; exact hz
theorem OutSt.first {w w2 : World} (hB : Below w.heap.size w w2) :
    OutSt 25 (fun k => k = w2.heap.size) w ((w2.alloc (.cells #[] 3)).alloc (.cells #[.slice (some ⟨w2.heap.size, 0, none⟩) 0 0] 25)) (.slice (some ⟨w2.heap.size + 1, 0, none⟩) 1 1) [[]] := by
  have hb := allocs_below [.cells #[] 3, .cells #[.slice (some ⟨w2.heap.size, 0, none⟩) 0 0] 25] w2 w2.heap.size (Nat.le_refl _)
  have e1 := allocs_get [.cells #[] 3, .cells #[.slice (some ⟨w2.heap.size, 0, none⟩) 0 0] 25] w2 0 _ rfl
  have e2 := allocs_get [.cells #[] 3, .cells #[.slice (some ⟨w2.heap.size, 0, none⟩) 0 0] 25] w2 1 _ rfl
  have h1 := hB.size
  refine ⟨hB.trans (hb.mono h1), ⟨[.slice (some ⟨w2.heap.size, 0, none⟩) 0 0], ⟨rfl, .inr ⟨w2.heap.size + 1, 1, _, rfl, by omega, e2, Nat.le_refl _, by simp [maxLen], rfl, rfl⟩⟩, rfl, fun j hj => ?_⟩, fun k hk => ?_⟩
  · obtain rfl : j = 0 := by simpa using hj
    refine ⟨_, rfl, fun w' _ => ⟨⟨_, 0, 0, rfl, rfl, Nat.le_refl _, by simp, fun h => absurd h (by omega)⟩, fun x hx => by cases hx⟩⟩
  · subst hk
    refine ⟨h1, by simp; omega, _, e1⟩
set_option maxRecDepth 100000 in
set_option maxHeartbeats 1000000 in
theorem reps50_bad (w : World) (v : Value) (g : Int) (t : Tb) (ht : Tab w v t) (hb : (check g t).1 ≠ 0) : Calls Try.prog 50 #[.int .i64 g, v] w (RepsPost g t w) := by
  have HC := Lib.hid (check43_any w v g t ht)
  obtain ⟨A, c, rfl, hc1, hc2, hc⟩ := ht.open_
  clear hc ht
  have HE : Hid (repsE g t = ([], (check g t).1)) := Lib.hid (by unfold repsE; rw [if_pos hb])
  have d1 : ((check g t).1 != 0) = true := by simpa using hb
  have HC' : Hid (Calls Try.prog 43 #[.int .i64 g, .slice A t.length c] w fun e w' => (∃ y, e = .returned (.tuple #[.int .i64 (check g t).1, .int .i64 y])) ∧ Below w.heap.size w w') :=
    Lib.hid (HC.out.mono fun e w' ⟨h2, h3⟩ => ⟨⟨_, h2⟩, h3⟩)
  clear HC
  generalize (check g t).1 = x at *
  clear hb
  go_enter Try.func50, Try.ntmps50
  go_wp2_with (go_at_call 43; (refine HC'.out.mono ?_); rintro e w' ⟨⟨y, rfl⟩, hb⟩; have HB := Lib.hid hb; clear hb)
  go_ret2
  exact ⟨⟨.slice none 0 0, ret_of2 rfl (by rw [HE.out]), by rw [HE.out]; exact TabB.nil⟩, HB.out⟩
set_option maxRecDepth 100000 in
set_option maxHeartbeats 2000000 in
theorem reps50_good (w : World) (v : Value) (g : Nat) (t : Tb) (ht : Tab w v t) (hg : TGood g t) : Calls Try.prog 50 #[.int .i64 g, v] w (RepsPost g t w) := by
  have hck := check_of_good hg
  have hn1 := hg.n1
  have HC : Hid (Calls Try.prog 43 #[.int .i64 (g : Int), v] w fun e w' => e = .returned (.tuple #[.int .i64 0, .int .i64 (-1)]) ∧ Below w.heap.size w w') :=
    Lib.hid ((check43_any w v g t ht).mono fun e w' ⟨h2, h3⟩ => by rw [hck] at h2; exact ⟨h2, h3⟩)
  have HST : Hid (∀ w', Below w.heap.size w w' → Calls Try.prog 48 #[.int .i64 (g : Int), v, .int .i64 0] w' (StdPost g t 0 w')) := Lib.hid fun w' hb => std48_good w' v g t 0 (kept_tab.below ht hb) hg (by omega) (by omega)
  have HE1 : Hid (std t 0 ≠ some t → repsE g t = ([], 13)) := Lib.hid fun h => by unfold repsE; rw [hck, if_neg (by simp), if_neg h]
  have HE2 : Hid (std t 0 = some t → repsE g t = (reps t, 0)) := Lib.hid fun h => by unfold repsE; rw [hck, if_neg (by simp), if_pos h]
  have HS1 : Hid (std t 0 = none → stdE g t 0 = ([], 13)) := Lib.hid fun h => by unfold stdE; rw [hck, if_neg (by simp), if_neg (by omega), h]
  have HS2 : Hid (∀ s, std t 0 = some s → stdE g t 0 = (s, 0)) := Lib.hid fun s h => by unfold stdE; rw [hck, if_neg (by simp), if_neg (by omega), h]
  have HSM : Hid (∀ w' u s, Tab w' u s → Below w.heap.size w w' → Calls Try.prog 109 #[u, v] w' fun e w'' => e = .returned (.bool (decide (s = t))) ∧ ∃ q, w'' = w'.drewN q) := Lib.hid fun w' u s hu hb => same109_any w' u v s t hu (kept_tab.below ht hb)
  have HTB := Lib.hid ht
  obtain ⟨A, c, rfl, hc1, hc2, hc⟩ := ht.open_
  have hn2 := hg.n2
  obtain ⟨bt, ot, rfl, hcell⟩ := hc (by omega)
  have HT := Lib.hid hcell
  have HG := Lib.hid hg
  have hg16 := hg.g16
  have hg16' : (g : Int) ≤ 16 := by omega
  have hg0 : (0 : Int) ≤ (g : Int) := Int.natCast_nonneg _
  have hn0 : (0 : Int) ≤ (t.length : Int) := Int.natCast_nonneg _
  clear hcell hc ht hck hg
  rcases hs : std t 0 with _ | s
  · have hSE := HS1.out hs
    have HST' : Hid (∀ w', Below w.heap.size w w' → Calls Try.prog 48 #[.int .i64 (g : Int), .slice (some ⟨bt, ot, none⟩) t.length c, .int .i64 0] w' fun e w'' => (∃ u, e = .returned (.tuple #[u, .int .i64 13])) ∧ Below w'.heap.size w' w'') := Lib.hid fun w' hb => (HST.out w' hb).mono fun e w'' ⟨⟨u, h1, h2⟩, h3⟩ => by
      rw [hSE] at h1
      exact ⟨⟨u, h1⟩, h3⟩
    have HZ := Lib.hid (HE1.out (by rw [hs]; simp))
    clear hs hSE
    go_enter Try.func50, Try.ntmps50
    go_wp2_with (first
      | (go_at_call 43; (refine HC.out.mono ?_); rintro e w1 ⟨rfl, hb⟩; have HB1 := Lib.hid hb; clear hb)
      | (go_at_call 48; (refine (HST'.out _ HB1.out).mono ?_); rintro e w2 ⟨⟨u, rfl⟩, hb⟩; have HB2 := Lib.hid (HB1.out.trans (hb.mono HB1.out.size)); clear hb))
    go_ret2
    exact ⟨⟨.slice none 0 0, ret_of2 rfl (by rw [HZ.out]), by rw [HZ.out]; exact TabB.nil⟩, HB2.out⟩
  · have hSE := HS2.out s hs
    have HST' : Hid (∀ w', Below w.heap.size w w' → Calls Try.prog 48 #[.int .i64 (g : Int), .slice (some ⟨bt, ot, none⟩) t.length c, .int .i64 0] w' fun e w'' => (∃ u, e = .returned (.tuple #[u, .int .i64 0]) ∧ Hid (Tab w'' u s)) ∧ Below w'.heap.size w' w'') := Lib.hid fun w' hb => (HST.out w' hb).mono fun e w'' ⟨⟨u, h1, h2⟩, h3⟩ => by
      rw [hSE] at h1 h2
      exact ⟨⟨u, h1, Lib.hid h2⟩, h3⟩
    clear HST hSE
    by_cases hst : s = t
    · subst hst
      have HZ := Lib.hid (HE2.out hs)
      have HSTD := Lib.hid (std_iff hs)
      have HSM' : Hid (∀ w' u, Tab w' u s → Below w.heap.size w w' → Calls Try.prog 109 #[u, .slice (some ⟨bt, ot, none⟩) s.length c] w' fun e w'' => e = .returned (.bool true) ∧ ∃ q, w'' = w'.drewN q) := Lib.hid fun w' u hu hb => by
        have := HSM.out w' u s hu hb
        rwa [decide_eq_true rfl] at this
      clear hs HSM
      go_enter Try.func50, Try.ntmps50
      go_wp2_with (first
        | (go_at_call 43; (refine HC.out.mono ?_); rintro e w1 ⟨rfl, hb⟩; have HB1 := Lib.hid hb; clear hb)
        | (go_at_call 48; (refine (HST'.out _ HB1.out).mono ?_); rintro e w2 ⟨⟨u, rfl, HU⟩, hb⟩; have HB2 := Lib.hid (HB1.out.trans (hb.mono HB1.out.size)); clear hb)
        | (go_at_call 109; (refine (HSM'.out _ _ HU.out HB2.out).mono ?_); rintro e w3 ⟨rfl, q, rfl⟩))
      have hot := OutSt.first (below_drewN HB2.out q)
      have HOT := Lib.hid hot
      clear hot
      go_loopw [10, 11] (fun so i wr => ∃ k m : Nat, i = .int .i64 k ∧ k ≤ s.length ∧ Hid (m = (foldTo (repRow s) k [[]]).length) ∧ ∃ F A c, so = .slice A m c ∧ Hid (OutSt 25 F w wr so (foldTo (repRow s) k [[]]))) (fun _ i _ => s.length - (intOf i).toNat)
      case atStart => exact ⟨0, 1, rfl, by omega, Lib.hid rfl, _, _, _, rfl, HOT⟩
      case round =>
        clear HOT
        obtain ⟨k, m, rfl, hk, HM, F, A2, c2, rfl, HST⟩ := hrel
        have hk0 : (0 : Int) ≤ (k : Int) := Int.natCast_nonneg _
        by_cases hlt : k < s.length
        · have hlt' : (k : Int) < (s.length : Int) := by omega
          obtain ⟨m0, hm0, ho0, hR0⟩ := rep_at HG.out HSTD.out k hk
          have hrow := rep_row HG.out HSTD.out hlt (hm0 hlt) ho0 hR0
          have HROW := Lib.hid hrow
          have HM0 := Lib.hid (hm0 hlt)
          have hrl := HG.out.len k hlt
          have HRL := Lib.hid hrl
          obtain ⟨u, hu, hI⟩ := HT.out k hlt
          have HU2 := Lib.hid hu
          have hI2 : IntsAt w u (s.row k) := hI
          obtain ⟨Au, cu, rfl, hu1, hu2, huc⟩ := hI2.open_
          obtain ⟨bu, ou, rfl, huc'⟩ := huc (by have := HG.out.g1; omega)
          have HUC := Lib.hid huc'
          have hu3 := (HST.out.below.cell (p := ⟨bt, ot + k, none⟩) (World.block_lt_of_cell? w _ HU2.out)).trans HU2.out
          clear hu hI hI2 huc huc' hrl hrow ho0 hR0 hm0
          go_wp2_with fail
          go_loopw [10, 50] (fun so i wr => ∃ j m : Nat, i = .int .i64 j ∧ j ≤ (s.row k).length ∧ Hid (m = (foldTo (repCol s k) j (foldTo (repRow s) k [[]])).length) ∧ ∃ F A c, so = .slice A m c ∧ Hid (OutSt 25 F w wr so (foldTo (repCol s k) j (foldTo (repRow s) k [[]])))) (fun _ i _ => (s.row k).length - (intOf i).toNat)
          case atStart => exact ⟨0, m, rfl, by omega, HM, _, _, _, rfl, HST⟩
          case round =>
            clear hu3 HST HM
            obtain ⟨j, m, rfl, hj, HM, F, A2, c2, rfl, HS⟩ := hrel
            have hj0 : (0 : Int) ≤ (j : Int) := Int.natCast_nonneg _
            by_cases hjl : j < (s.row k).length
            · have hjl3 : (j : Int) < (((s.row k).length : Int)) := by omega
              have hjl2 : j < (s.row k).length := by have := HRL.out; omega
              have hjl4 : (j : Int) < ((s.row k).length : Int) := by omega
              have hj32 : j < 2 * g := by have := HRL.out; omega
              have hcs := HUC.out j hjl2
              have hcs' := (HS.out.below.cell (p := ⟨bu, ou + j, none⟩) (World.block_lt_of_cell? w _ hcs)).trans hcs
              have hu3 := (HS.out.below.cell (p := ⟨bt, ot + k, none⟩) (World.block_lt_of_cell? w _ HU2.out)).trans HU2.out
              obtain ⟨m1, hm1, hR1⟩ := HROW.out j (by omega)
              have hbd := HG.out.bd k hlt j hj32
              have hml : m = m1 := by rw [HM.out]; exact hR1.ol
              have hmn : m ≤ s.length := by rw [hml]; exact hR1.le
              have hkm : k < m := by have := HM0.out; omega
              have hwl := hR1.wl k (by omega)
              have hat : (s.row k).getD j 0 = s.at k j := rfl
              rw [hat] at hcs'
              have HSJ0 : Hid (s.at k j = ((foldTo (repCol s k) j (foldTo (repRow s) k [[]])).length : Int) → foldTo (repCol s k) (j + 1) (foldTo (repRow s) k [[]]) = foldTo (repCol s k) j (foldTo (repRow s) k [[]]) ++ [(foldTo (repCol s k) j (foldTo (repRow s) k [[]])).getD k [] ++ [letter j]]) := Lib.hid fun h => if_pos h
              have HSJ1 : Hid (s.at k j ≠ ((foldTo (repCol s k) j (foldTo (repRow s) k [[]])).length : Int) → foldTo (repCol s k) (j + 1) (foldTo (repRow s) k [[]]) = foldTo (repCol s k) j (foldTo (repRow s) k [[]])) := Lib.hid fun h => if_neg h
              rw [← HM.out] at HSJ0 HSJ1
              clear hcs hat hR1 hm1 hml
              generalize foldTo (repCol s k) j (foldTo (repRow s) k [[]]) = oj at *
              generalize s.at k j = x at *
              have hI1 : -9223372036854775808 ≤ x := by omega
              have hI3 : x ≤ 9223372036854775807 := by omega
              clear hbd
              have hm64 : (m : Int) ≤ 20000 := by omega
              by_cases hx : x = (m : Int)
              · have d5 : (x == (m : Int)) = true := by simpa using hx
                have HSJ := Lib.hid (HSJ0.out hx)
                have HM8 : Hid (m + 1 = (foldTo (repCol s k) (j + 1) (foldTo (repRow s) k [[]])).length) := Lib.hid (by rw [HSJ.out, List.length_append, HM.out]; rfl)
                obtain ⟨A5, c5, e5, ht1, ht2, ht3⟩ := HS.out.out.tab.open_
                obtain ⟨rfl, -, rfl⟩ := Value.slice.inj e5
                obtain ⟨b5, o5, rfl, hoc⟩ := ht3 (by have := HM.out; omega)
                obtain ⟨u5, hu5, hI5⟩ := hoc k (by have := HM.out; omega)
                have hkm' : (k : Int) < (m : Int) := by omega
                have HF := Lib.hid hI5.2
                have HLB : Hid (-9223372036854775808 ≤ letter j ∧ letter j ≤ 9223372036854775807) := Lib.hid (by have := letter_bd (c := j) (by omega); omega)
                clear hx hoc ht3 e5
                (
                  have HCL := Lib.hid (clone71_any wr u5 (oj.getD k []) hI5 (by omega))
                  clear hI5
                  go_wp2_with (first
                    | (go_at_call 71; (refine HCL.out.mono ?_); rintro e w5 ⟨A7, c7, rfl, ho, hb⟩
                       obtain ⟨A8, c8, w6, hr6, hS6⟩ := (HS.out.with_row hb ho).add (by decide) 25 Try.underlying25 (letter j) (by omega)
                       obtain ⟨A9, c9, w7, hr7, hS7⟩ := hS6.done (by decide) Try.underlying31 info25p (fits_snoc HF.out HLB.out) (by have := HM.out; omega)
                       rw [← HM.out] at hr7 hS7
                       have HR6 := Lib.hid hr6
                       have HR7 := Lib.hid hr7
                       rw [← HSJ.out] at hS7
                       have HS7 := Lib.hid hS7
                       clear ho hb hr6 hr7 hS6 hS7)
                    | (go_at_call 110; (refine (letter110_any _ j (by omega)).mono ?_); rintro e w8 ⟨rfl, rfl⟩)
                    | ((with_reducible refine wpList_sel 68 ?_); refine wpList_val rfl (r_app (.tmp 64) (.tmp 67) 25 rfl rfl rfl HR6.out) ?_)
                    | ((with_reducible refine wpList_sel 70 ?_); refine wpList_val rfl (r_app (.tmp 59) (.tmp 69) 31 rfl rfl rfl HR7.out) ?_))
                  go_roundw
                  case rel => exact ⟨j + 1, m + 1, by go_num, by omega, HM8, _, _, _, rfl, HS7⟩
                  case measure => simp [intOf]; omega
                )
              · have d5 : (x == (m : Int)) = false := by simpa using hx
                have HSJ := Lib.hid (HSJ1.out hx)
                rw [← HSJ.out] at HS HM
                clear hx
                go_wp2_with fail
                go_roundw
                case rel => exact ⟨j + 1, m, by go_num, by omega, HM, _, _, _, rfl, HS⟩
                case measure => simp [intOf]; omega
            · obtain rfl : j = (s.row k).length := by omega
              have he : foldTo (repRow s) (k + 1) [[]] = foldTo (repCol s k) ((s.row k).length) (foldTo (repRow s) k [[]]) := rfl
              rw [← he] at HS HM
              clear he
              go_wp2_with fail
              go_roundw
              case rel => exact ⟨k + 1, m, by go_num, by omega, HM, _, _, _, rfl, HS⟩
              case measure => simp [intOf]; omega
        · obtain rfl : k = s.length := by omega
          have HT2 := Lib.hid HST.out.tabB
          have HBW := Lib.hid HST.out.below
          go_wp2_with fail
          go_ret2
          exact ⟨⟨_, ret_of2 rfl (by rw [HZ.out]), by rw [HZ.out]; exact HT2.out⟩, HBW.out⟩
    · have HZ := Lib.hid (HE1.out (by rw [hs]; simpa using hst))
      rw [hs] at HE2
      have HSM' : Hid (∀ w' u, Tab w' u s → Below w.heap.size w w' → Calls Try.prog 109 #[u, .slice (some ⟨bt, ot, none⟩) t.length c] w' fun e w'' => e = .returned (.bool false) ∧ ∃ q, w'' = w'.drewN q) := Lib.hid fun w' u hu hb => by
        have := HSM.out w' u s hu hb
        rwa [decide_eq_false hst] at this
      clear hs hst HSM
      go_enter Try.func50, Try.ntmps50
      go_wp2_with (first
        | (go_at_call 43; (refine HC.out.mono ?_); rintro e w1 ⟨rfl, hb⟩; have HB1 := Lib.hid hb; clear hb)
        | (go_at_call 48; (refine (HST'.out _ HB1.out).mono ?_); rintro e w2 ⟨⟨u, rfl, HU⟩, hb⟩; have HB2 := Lib.hid (HB1.out.trans (hb.mono HB1.out.size)); clear hb)
        | (go_at_call 109; (refine (HSM'.out _ _ HU.out HB2.out).mono ?_); rintro e w3 ⟨rfl, q, rfl⟩))
      go_ret2
      exact ⟨⟨.slice none 0 0, ret_of2 rfl (by rw [HZ.out]), by rw [HZ.out]; exact TabB.nil⟩, below_drewN HB2.out q⟩
end Go.Proofs
