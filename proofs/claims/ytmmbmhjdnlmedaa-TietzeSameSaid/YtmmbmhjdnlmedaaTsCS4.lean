/- word.Invert, slices.Concat, word.Mul; (system).grows; rewrite.of; rewrite.Count; rewrite.Generators; The iterator of (table).walk; A range over a function whose body never leaves the loop; the iterator may write one box of its own; A region that draws its order, by an invariant on its slots: each operation is shown once, whatever order the region is run in. Fenced walk; (system).rewrite; rewrite.Rewrite; Presentations: which are valid, plainly; the letters of a word; pres.Check; Columns of letters; where a word leads; fine; Complete; plain; the reference's Images. -/
import Derived.Test.YtmmbmhjdnlmedaaTsCS3
import Derived.Test.YtmmbmhjdnlmedaaTsCS1
import Derived.DeepKeys4
import Derived.MapViews
import Derived.WideKeyArgs
import Derived.Deep.MidRow
import Derived.Deep.RegionHeld3
import Derived.RangeFuncNested
import Derived.RangeFuncCalls
import Derived.OwnWalkIn
import Derived.TacticsInMore
import Derived.LoopNIn
import Derived.LoopIn
import Derived.RangeFuncFrom
import Derived.OrdersIn
import Derived.TacticsIn
import Derived.Deep.RegionHeld
import Derived.RangeFuncLeaves
namespace Go.Proofs
open Go.RowKit Go.Shelf Go.Proofs.Ct
theorem RedPost.base {x : List Int} {w w1 : World} {e : Ending} {w' : World} (hb : Below w.heap.size w w1) (h : RedPost x w1 e w') : RedPost x w e w' := by
  obtain ⟨A, c, h1, h2, h3⟩ := h
  exact ⟨A, c, h1, owns_base h2 hb.size, hb.trans (h3.mono hb.size)⟩
set_option maxRecDepth 100000 in
theorem invert72_any (w : World) (v : Value) (x : List Int) (h : IntsAt w v x) (hm : ∀ z ∈ x, Mild z) (hl : x.length ≤ 8000000) : Calls Try.prog 22 #[v] w (RedPost (inv x) w) := by
  have HC := Lib.hid (turned116_any w v x h hm hl)
  have HM := Lib.hid (mild_inv hm)
  have HL : Hid ((inv x).length ≤ 8000000) := Lib.hid (by rw [length_inv]; exact hl)
  clear h hm hl
  go_enter Try.func22, Try.ntmps22
  go_wp2_with (first
    | (go_at_call 40
       (refine HC.out.mono ?_)
       rintro e w1 ⟨⟨u, rfl, hu⟩, hb⟩
       have HR := Lib.hid (reduce99_any w1 u (inv x) hu HM.out HL.out)
       have HB := Lib.hid hb
       clear hu hb)
    | (go_at_call 38
       (refine HR.out.mono ?_)
       rintro e w2 ⟨A, c, rfl, ho, hb⟩
       have HO := Lib.hid ho
       have HB2 := Lib.hid hb
       clear ho hb))
  go_ret
  exact RedPost.base HB.out ⟨A, c, rfl, HO.out, HB2.out⟩
theorem run_append_zeros (w : World) (n : Nat) (h0 : 0 < n) (hn : n ≤ 9000000) :
    (Builtin.append_ #[24, 3] 24 #[.slice none 0 0, .int .i64 (n : Int)]).run Try.prog w =
      .ok (.slice (some ⟨w.heap.size, 0, none⟩) n (grownCap w n 0 3)) (w.drew.alloc (.cells (Builtin.zeroCells #[.int .i64 0] n ++ Builtin.zeroCells #[.int .i64 0] (grownCap w n 0 3 - n)) 3)) := by
  obtain ⟨i, hi, hz, hs, hby⟩ := info3p
  have hwr : IntKind.i64.wrap (n : Int) = n := IntWalk.i64_in _ (by omega)
  have hn0 : n ≠ 0 := by omega
  have h48 : ¬ (281474976710656 < Builtin.nextslicecap n 0 * i.bytes) := by rw [nextslicecap_zero h0, hby]; omega
  have h48' : ¬ ((281474976710656 : Int) < (n : Int) * (i.bytes : Int)) := by rw [hby]; omega
  have h63' : ¬ (9223372036854775807 < (n : Int)) := by omega
  have hneg : ¬ ((n : Int) < 0) := by omega
  simp [Builtin.append_, run_underlying Try.underlying24, run_underlying Try.underlying3, sizeOf, typeInfo, zeroValue, hi, hz, hs, asInt, asIntOf, hwr, hneg, h48', hn0, h48, h63', Question.forced, run_firstCells_none, newRow, grownCap, Value.cells]
theorem r_app2 {o : Oper} {a : Act} {w w' : World} (s x : Operand) (t u : TypeId) {sv xv v' : Value} (ho : o.op = .call { callee := .builtin .append, args := #[s, x], argTypes := #[t, u] }) (hs : a.eval s = sv) (hx : a.eval x = xv)
    (hr : (Builtin.append_ #[t, u] o.type #[sv, xv]).run Try.prog w = .ok v' w') : (execOp a.eval o).run Try.prog w = .ok (.value v') w' := by
  unfold execOp
  simp only [ho, resolve, invoke, builtin, Sem.run_bind, Sem.run_pure, Result.andThen_ok, List.map_toArray, List.map_cons, List.map_nil, hs, hx, hr]
def GrowPost (w : World) (e : Ending) (w' : World) : Prop := ∃ A c, e = .returned (.slice A 0 c) ∧ OwnI w.heap.size w' (.slice A 0 c) [] ∧ Below w.heap.size w w'
set_option maxRecDepth 100000 in
theorem grow135_any (w : World) (n : Nat) (hn : n ≤ 9000000) : Calls Try.prog 56 #[.slice none 0 0, .int .i64 (n : Int)] w (GrowPost w) := by
  have hn0 : (0 : Int) ≤ (n : Int) := Int.natCast_nonneg _
  have hn1 : (n : Int) ≤ 9000000 := by omega
  by_cases h0 : n = 0
  · subst h0
    go_enter Try.func56, Try.ntmps56
    go_wp2_with fail
    go_ret
    exact ⟨none, 0, rfl, World.ownsRow_nil _ _ _ _, Below.refl _ _⟩
  · have hpos : (0 : Int) < (n : Int) := by omega
    have hr := run_append_zeros w n (by omega) hn
    have hcm := grownCap_le_maxLen w n 0 3 (by unfold maxLen; omega)
    have hcg := grownCap_ge w n 0 3
    have hsz : (Builtin.zeroCells #[Value.int .i64 0] n ++ Builtin.zeroCells #[Value.int .i64 0] (grownCap w n 0 3 - n)).size = grownCap w n 0 3 := by
      simp [size_zeroCells]; omega
    have hnew := heap_alloc_new w.drew (.cells (Builtin.zeroCells #[Value.int .i64 0] n ++ Builtin.zeroCells #[Value.int .i64 0] (grownCap w n 0 3 - n)) 3)
    have hbel : Below w.heap.size w (w.drew.alloc (.cells (Builtin.zeroCells #[Value.int .i64 0] n ++ Builtin.zeroCells #[Value.int .i64 0] (grownCap w n 0 3 - n)) 3)) := (below_drewN (Below.refl w.heap.size w) 1).alloc (Nat.le_refl _) _
    generalize Builtin.zeroCells #[Value.int .i64 0] n ++ Builtin.zeroCells #[Value.int .i64 0] (grownCap w n 0 3 - n) = C at *
    generalize grownCap w n 0 3 = cap at *
    have hown : OwnI w.heap.size (w.drew.alloc (.cells C 3)) (.slice (some ⟨w.heap.size, 0, none⟩) 0 cap) [] := ⟨rfl, .inr ⟨w.heap.size, cap, C, rfl, Nat.le_refl _, hnew, Nat.zero_le _, hcm, by omega, by simp [ints]⟩⟩
    generalize w.drew.alloc (.cells C 3) = W at *
    have hcm' : cap ≤ 9223372036854775807 := by unfold maxLen at hcm; exact hcm
    have hcg' : (n : Int) ≤ (cap : Int) := by omega
    have HR := Lib.hid hr
    have HO := Lib.hid hown
    have HB := Lib.hid hbel
    clear hr hown hbel hnew hsz hcm
    go_enter Try.func56, Try.ntmps56
    go_wp2_with ((with_reducible refine wpList_sel 22 ?_); refine wpList_val rfl (r_app2 (.tmp 20) (.tmp 21) 24 3 rfl rfl rfl HR.out) ?_)
    go_ret
    exact ⟨_, cap, rfl, HO.out, HB.out⟩
/-- the lists before the k-th, one after the other -/
def flatTo (xs : List (List Int)) (k : Nat) : List Int := foldTo (fun k l => l ++ xs.getD k []) k []
def sumTo (xs : List (List Int)) (k : Nat) : Nat := foldTo (fun k l => l + (xs.getD k []).length) k 0
theorem flatTo_length (xs : List (List Int)) : ∀ k, (flatTo xs k).length = sumTo xs k
  | 0 => rfl
  | k + 1 => by
    show (flatTo xs k ++ xs.getD k []).length = sumTo xs k + (xs.getD k []).length
    rw [List.length_append, flatTo_length xs k]
theorem sumTo_mono (xs : List (List Int)) {k m : Nat} (h : k ≤ m) : sumTo xs k ≤ sumTo xs m := by
  obtain ⟨d, rfl⟩ := Nat.exists_eq_add_of_le h
  clear h
  induction d with
  | zero => exact Nat.le_refl _
  | succ d ih => exact Nat.le_trans ih (Nat.le_add_right _ _)
def CatPost (x : List Int) (w : World) (e : Ending) (w' : World) : Prop := ∃ A c, e = .returned (.slice A x.length c) ∧ OwnI w.heap.size w' (.slice A x.length c) x ∧ Below w.heap.size w w'
set_option maxRecDepth 100000 in
set_option maxHeartbeats 1000000 in
theorem concat100_any (w : World) (v : Value) (xs : List (List Int)) (h : Tab w v xs) (hl : sumTo xs xs.length ≤ 9000000) : Calls Try.prog 39 #[v] w (CatPost (flatTo xs xs.length) w) := by
  obtain ⟨A0, c0, rfl, hc1, hc2, hc⟩ := h.open_
  have HC := Lib.hid hc
  clear hc h
  have hx0 : (0 : Int) ≤ (xs.length : Int) := Int.natCast_nonneg _
  go_enter Try.func39, Try.ntmps39
  go_wp2_with fail
  go_loop [3, 11] (fun so i => ∃ k n : Nat, i = .int .i64 k ∧ k ≤ xs.length ∧ so = .int .i64 n ∧ Hid (n = sumTo xs k)) (fun _ i => xs.length - (intOf i).toNat)
  case atStart => exact ⟨0, 0, rfl, by omega, rfl, Lib.hid rfl⟩
  case round =>
    obtain ⟨k, n, rfl, hk, rfl, HN⟩ := hrel
    have hk0 : (0 : Int) ≤ (k : Int) := Int.natCast_nonneg _
    have hn0 : (0 : Int) ≤ (n : Int) := Int.natCast_nonneg _
    by_cases hlt : k < xs.length
    · have hlt' : (k : Int) < (xs.length : Int) := by omega
      obtain ⟨b, o, rfl, hcc⟩ := HC.out (by omega)
      obtain ⟨u, hu, hI⟩ := hcc k hlt
      obtain ⟨A5, c5, rfl, h1, h2, h3⟩ := hI.open_
      have hst : sumTo xs (k + 1) = sumTo xs k + (xs.getD k []).length := rfl
      have hmo := sumTo_mono xs (k := k + 1) (m := xs.length) (by omega)
      have hb : (n : Int) + ((xs.getD k []).length : Int) ≤ 9000000 := by have := HN.out; omega
      have HN2 : Hid (n + (xs.getD k []).length = sumTo xs (k + 1)) := Lib.hid (by rw [hst, HN.out])
      clear hcc hI h3 hst hmo
      generalize (xs.getD k []).length = q at *
      have hq0 : (0 : Int) ≤ (q : Int) := Int.natCast_nonneg _
      go_wp2_with fail
      go_round
      case rel => exact ⟨k + 1, n + q, by go_num, by omega, by go_num, HN2⟩
      case measure => simp [intOf]; omega
    · obtain rfl : k = xs.length := by omega
      have HG := Lib.hid (grow135_any w n (by have := HN.out; omega))
      go_wp2_with (go_at_call 56; (refine HG.out.mono ?_); rintro e w1 ⟨A1, c1, rfl, ho, hb⟩; have HO := Lib.hid ho; have HB := Lib.hid hb; clear ho hb)
      go_loopw [6, 27] (fun so i wr => ∃ k n : Nat, i = .int .i64 k ∧ k ≤ xs.length ∧ Hid (n = (flatTo xs k).length) ∧ ∃ A c, so = .slice A n c ∧ Hid (OwnI w.heap.size wr so (flatTo xs k) ∧ Below w.heap.size w wr)) (fun _ i _ => xs.length - (intOf i).toNat)
      case atStart => exact ⟨0, 0, rfl, by omega, Lib.hid rfl, _, _, rfl, Lib.hid ⟨HO.out, HB.out⟩⟩
      case round =>
        clear HO HB HG HN hn0 hk0
        obtain ⟨k, n, rfl, hk, HN, A, c, rfl, HS⟩ := hrel
        have hk0 : (0 : Int) ≤ (k : Int) := Int.natCast_nonneg _
        by_cases hlt : k < xs.length
        · have hlt' : (k : Int) < (xs.length : Int) := by omega
          obtain ⟨b, o, rfl, hcc⟩ := HC.out (by omega)
          obtain ⟨u, hu, hI⟩ := hcc k hlt
          have hu' := (HS.out.2.cell (p := ⟨b, o + k, none⟩) (World.block_lt_of_cell? w _ hu)).trans hu
          have hmo := sumTo_mono xs (k := k + 1) (m := xs.length) (by omega)
          have hst : sumTo xs (k + 1) = sumTo xs k + (xs.getD k []).length := rfl
          have hfl := flatTo_length xs k
          obtain ⟨A', c', w', hr, ho, hg, -⟩ := run_append_ints 24 24 Try.underlying24 wr w.heap.size (.slice A n c) u (flatTo xs k) (xs.getD k []) HS.out.1 (hI.below HS.out.2) (by omega) (by omega) HS.out.2.size
          have hs2 : flatTo xs k ++ xs.getD k [] = flatTo xs (k + 1) := rfl
          rw [hs2] at hr ho
          have HR := Lib.hid hr
          have HS2 : Hid (OwnI w.heap.size w' (.slice A' (flatTo xs (k + 1)).length c') (flatTo xs (k + 1)) ∧ Below w.heap.size w w') := Lib.hid ⟨ho, HS.out.2.grown hg HS.out.2.size (fun r hr => (owns_block HS.out.1 r hr).1)⟩
          clear hcc hu hI hmo hst hfl hr ho hg hs2
          go_wp2_with ((with_reducible refine wpList_sel 33 ?_); refine wpList_val rfl (r_app (.tmp 31) (.tmp 32) 24 rfl rfl rfl HR.out) ?_)
          go_roundw
          case rel => exact ⟨k + 1, _, by go_num, by omega, Lib.hid rfl, _, _, rfl, HS2⟩
          case measure => simp [intOf]; omega
        · obtain rfl : k = xs.length := by omega
          go_wp2_with fail
          go_ret
          exact ⟨A, c, by rw [← HN.out]; rfl, by rw [← HN.out]; exact HS.out.1, HS.out.2⟩
theorem tab_two (w : World) (u v : Value) (x y : List Int) (hu : IntsAt w u x) (hv : IntsAt w v y) {e : TypeId} : Tab (w.alloc (.cells #[u, v] e)) (.slice (some ⟨w.heap.size, 0, none⟩) 2 2) [x, y] := by
  have hb : Below w.heap.size w (w.alloc (.cells #[u, v] e)) := (Below.refl _ _).alloc (Nat.le_refl _) _
  refine ⟨[u, v], ⟨_, 2, 2, rfl, rfl, Nat.le_refl _, by simp [maxLen], fun _ => ⟨w.heap.size, 0, rfl, fun j z hz => ?_⟩⟩, rfl, fun i hi => ?_⟩
  · rw [cell_of_row _ _ _ _ _ _ (heap_alloc_new w _), Nat.zero_add]
    simpa using hz
  · have : i = 0 ∨ i = 1 := by simp at hi; omega
    rcases this with rfl | rfl
    · exact ⟨u, rfl, hu.below hb⟩
    · exact ⟨v, rfl, hv.below hb⟩
set_option maxRecDepth 100000 in
theorem mul41_any (w : World) (u v : Value) (x y : List Int) (hu : IntsAt w u x) (hv : IntsAt w v y) (hmx : ∀ z ∈ x, Mild z) (hmy : ∀ z ∈ y, Mild z) (hl : x.length + y.length ≤ 8000000) : Calls Try.prog 21 #[u, v] w (RedPost (x ++ y) w) := by
  obtain ⟨A0, c0, rfl, h1, h2, h3⟩ := hu.open_
  obtain ⟨A1, c1, rfl, k1, k2, k3⟩ := hv.open_
  clear h3 k3
  have hb : Below w.heap.size w (w.alloc (.cells #[.slice A0 x.length c0, .slice A1 y.length c1] 24)) := (Below.refl _ _).alloc (Nat.le_refl _) _
  have hcat := concat100_any _ _ [x, y] (tab_two w _ _ x y hu hv (e := 24)) (by simp [sumTo, foldTo]; omega)
  have hfl : flatTo [x, y] ([x, y] : List (List Int)).length = x ++ y := by simp [flatTo, foldTo]
  rw [hfl] at hcat
  have HC := Lib.hid hcat
  have HB := Lib.hid hb
  have HM : Hid (∀ z ∈ x ++ y, Mild z) := Lib.hid fun z hz => (List.mem_append.1 hz).elim (hmx z) (hmy z)
  have HL : Hid ((x ++ y).length ≤ 8000000) := Lib.hid (by rw [List.length_append]; exact hl)
  clear hcat hb hu hv hmx hmy hfl
  generalize x ++ y = z at *
  go_enter Try.func21, Try.ntmps21
  go_wp2_with (first
    | (go_at_call 39
       (refine HC.out.mono ?_)
       rintro e w1 ⟨A, c, rfl, ho, hb⟩
       have HR := Lib.hid (reduce99_any w1 _ z (ho.ints (Mild.fits HM.out)) HM.out HL.out)
       have HB1 := Lib.hid (HB.out.trans (hb.mono HB.out.size))
       clear ho hb)
    | (go_at_call 38
       (refine HR.out.mono ?_)
       rintro e w2 ⟨A, c, rfl, ho, hb⟩
       have HO := Lib.hid ho
       have HB2 := Lib.hid hb
       clear ho hb))
  go_ret
  exact RedPost.base HB1.out ⟨_, _, rfl, HO.out, HB2.out⟩
end Go.Proofs
namespace Go.Proofs
open Go.RowKit Go.Shelf Go.Proofs.Ct Go.Maps
theorem IntsAt.take {w : World} {A : Option Addr} {n c : Nat} {xs : List Int} (h : IntsAt w (.slice A n c) xs) {k : Nat} (hk : k ≤ n) : IntsAt w (.slice A k c) (xs.take k) := by
  obtain ⟨⟨A', n', c', e, h2, h3, h4, h5⟩, hf⟩ := h
  obtain ⟨rfl, rfl, rfl⟩ := Value.slice.inj e
  have hl : n = xs.length := by simpa [ints] using h2
  refine ⟨⟨A, k, c, rfl, by simp [ints]; omega, by omega, h4, fun hn => ?_⟩, fun x hx => hf x (List.mem_of_mem_take hx)⟩
  obtain ⟨b, off, ha, hr⟩ := h5 (by omega)
  refine ⟨b, off, ha, fun j v hv => hr j v ?_⟩
  have : ints (xs.take k) = (ints xs).take k := by simp [ints, List.map_take]
  rw [this, List.getElem?_take] at hv
  split at hv
  · exact hv
  · cases hv
end Go.Proofs
namespace Go.Proofs
open Go.RowKit Go.Shelf Go.Proofs.Ct Go.Maps
section
variable {o : Oper} {a : Act} {w w' : World} {n : Nat} {v : Value}
theorem r_move (x : Operand) (ho : o.op = .move x) (hx : a.eval x = v) : (execOp a.eval o).run Try.prog w = .ok (.value v) w := by
  unfold execOp
  simp only [ho, hx]
  rfl
end
end Go.Proofs
namespace Go.Proofs
open Go.RowKit Go.Shelf Go.Proofs.Ct Go.Maps
theorem Tab.form {w : World} {v : Value} {xs : List (List Int)} (h : Tab w v xs) : ∃ A c, v = .slice A xs.length c := let ⟨A, c, e, _⟩ := h.open_; ⟨A, c, e⟩
theorem below_boxed {w w1 : World} (hb : Below w.heap.size w w1) (o : Obj) (cs : Array Value) : Below w.heap.size w ((w1.alloc o).setRow w1.heap.size cs) := by
  have h1 := hb.size
  have h2 : Below w.heap.size w (w1.alloc o) := hb.alloc h1 _
  exact h2.trans ⟨rfl, rfl, rfl, by rw [World.setRow]; simp, fun k hk => setRow_other _ _ k _ (by omega)⟩
end Go.Proofs
namespace Go.Proofs
open Go.RowKit Go.Shelf Go.Proofs.Ct Go.Maps
section
variable {ops : Array Oper} {o : Oper} {a : Act} {w w' : World} {K : Act → World → Prop} {Q : Exit → Act → World → Prop} {E : Prop} {v : Value}
end
theorem OutSt2.done' {t e : TypeId} (he : e ≠ 3) (ht : Try.prog.underlying t = some (.slice e)) (hi : ∃ i, Try.prog.info? e = some i ∧ i.zero = some (.slice none 0 0) ∧ i.size = 1 ∧ i.bytes = 24) {F : Nat → Prop} {w0 wr : World} {vout : Value} {A : Option Addr} {n c : Nat} {rows : List (List Int)} {x : List Int} (h : OutSt2 e F w0 wr vout (.slice A n c) rows x) (hf : Fits x) (hl : rows.length ≤ 9000000) :
    ∃ A' c' w', (Builtin.append_ #[t, t] t #[vout, .slice (some ⟨wr.heap.size, 0, none⟩) 1 1]).run Try.prog (wr.alloc (.cells #[.slice A n c] e)) = .ok (.slice A' (rows.length + 1) c') w' ∧
      OutSt e (fun k => F k ∨ (Value.slice A n c).ownBlock = some k) w0 w' (.slice A' (rows.length + 1) c') (rows ++ [x]) ∧ wr.grownBy w' vout.ownBlock := by
  have hub := h.st.out.block
  have hrb := owns_block h.row
  have hne : ∀ {k : Nat} {C : Array Value} {fr : Nat × Nat}, wr.heap[k]? = some (.cells C 3 fr) → vout.ownBlock ≠ some k := fun {k C fr} hc e' => by
    obtain ⟨-, C', hC'⟩ := hub k e'
    rw [hc] at hC'
    injection hC' with h5
    injection h5 with _ h6 _
    exact he h6.symm
  have hF2 : ∀ k, (F k ∨ (Value.slice A n c).ownBlock = some k) → k < wr.heap.size ∧ vout.ownBlock ≠ some k := fun k hk => by
    rcases hk with hk | hk
    · obtain ⟨h1, h2, C, hC⟩ := h.st.fs k hk
      exact ⟨h2, hne hC⟩
    · obtain ⟨h1, C, hC⟩ := hrb k hk
      exact ⟨(Array.getElem?_eq_some_iff.1 hC).1, hne hC⟩
  obtain ⟨A', c', w', hr, ho', hg, hw⟩ := push_row (ty := t) ht hi wr w0.heap.size (fun k => F k ∨ (Value.slice A n c).ownBlock = some k) vout rows (h.st.out.keep (fun _ _ => rfl) (Ag.refl _ _) (fun k hk => .inl hk)) A n c x ((IntsF.of_own h.row hf).mono fun k hk => .inr hk) hF2 (by omega) h.st.below.size
  refine ⟨A', c', w', hr, ⟨h.st.below.grown hg h.st.below.size (fun k hk => (hub k hk).1), ho', fun k hk => ?_⟩, hg⟩
  have h2 := (hF2 k hk).1
  rcases hk with hk | hk
  · obtain ⟨h1, _, C, hC⟩ := h.st.fs k hk
    exact ⟨h1, Nat.lt_of_lt_of_le h2 hg.size, C, grown_cells hg hC (hne hC)⟩
  · obtain ⟨h1, C, hC⟩ := hrb k hk
    exact ⟨h1, Nat.lt_of_lt_of_le h2 hg.size, C, grown_cells hg hC (hne hC)⟩
theorem ints_one (w : World) (z : Int) (hz : -9223372036854775808 ≤ z ∧ z ≤ 9223372036854775807) : IntsAt (w.alloc (.cells #[.int .i64 z] 3)) (.slice (some ⟨w.heap.size, 0, none⟩) 1 1) [z] := by
  refine ⟨⟨_, 1, 1, rfl, rfl, Nat.le_refl _, by simp [maxLen], fun _ => ⟨w.heap.size, 0, rfl, fun j u hu => ?_⟩⟩, fun x hx => ?_⟩
  · rw [cell_of_row _ _ _ _ _ _ (heap_alloc_new w _), Nat.zero_add]
    simpa [ints] using hu
  · have : x = z := by simpa using hx
    rw [this]; exact hz
end Go.Proofs
namespace Go.Proofs
open Go.RowKit Go.Shelf Go.Proofs.Ct Go.Maps
theorem wide_fn (f : FuncId) : Fence.wide.fn f := trivial
theorem wide_depth : Fence.wide.depth = none := rfl
attribute [local simp, local go_sem] wide_fn wide_depth
attribute [local go_sem] Oper.semAt_some
/-- what the walk's body leaves alone -/
def Kb (S : Nat → Prop) (A B : World) : Prop := B.os = A.os ∧ B.tape = A.tape ∧ B.output = A.output ∧ A.heap.size ≤ B.heap.size ∧ Ag S A B
theorem cell_of2 {w : World} {b : Nat} {v u : Value} {e : TypeId} (h : w.heap[b]? = some (.cells #[v, u] e (0, 0))) : w.cell? ⟨b, 0, none⟩ = some v ∧ w.cell? ⟨b, 1, none⟩ = some u :=
  ⟨by rw [cell_of_row _ _ _ _ _ _ h]; rfl, by rw [cell_of_row _ _ _ _ _ _ h]; rfl⟩
/-- the letters are those of generators -/
def LetsOk (g : Nat) (w : List Int) : Prop := ∀ x ∈ w, -(g : Int) ≤ x ∧ x ≤ g ∧ x ≠ 0
theorem LetsOk.at_ {g : Nat} {w : List Int} (h : LetsOk g w) {k : Nat} (hk : k < w.length) : -(g : Int) ≤ w.getD k 0 ∧ w.getD k 0 ≤ g ∧ w.getD k 0 ≠ 0 := by
  rw [List.getD_eq_getElem?_getD, List.getElem?_eq_getElem hk]
  exact h _ (List.getElem_mem hk)
end Go.Proofs
namespace Go.Proofs
open Go.RowKit Go.Shelf Go.Proofs.Ct Go.Maps
/-- what a body does to a world: it writes its own box bo and blocks of cells from B on -/
structure Turned (bo B : Nat) (W W' : World) : Prop where
  os : W'.os = W.os
  tape : W'.tape = W.tape
  output : W'.output = W.output
  size : W.heap.size ≤ W'.heap.size
  block : ∀ k, k < W.heap.size → k ≠ bo → (k < B ∨ ∃ o : Obj, W.heap[k]? = some o ∧ o.isCells = false) → W'.heap[k]? = W.heap[k]?
theorem Turned.refl (bo B : Nat) (W : World) : Turned bo B W W := ⟨rfl, rfl, rfl, Nat.le_refl _, fun _ _ _ _ => rfl⟩
theorem Turned.trans {bo B : Nat} {W X Y : World} (h : Turned bo B W X) (k : Turned bo B X Y) : Turned bo B W Y :=
  ⟨k.os.trans h.os, k.tape.trans h.tape, k.output.trans h.output, Nat.le_trans h.size k.size, fun i hi hb hc =>
    (k.block i (Nat.lt_of_lt_of_le hi h.size) hb (hc.imp id fun ⟨o, ho, hn⟩ => ⟨o, (h.block i hi hb hc).trans ho, hn⟩)).trans (h.block i hi hb hc)⟩
theorem Turned.of_below {bo B : Nat} {W X : World} (h : Below W.heap.size W X) : Turned bo B W X := ⟨h.os, h.tape, h.output, h.size, fun i hi _ _ => h.block i hi⟩
theorem Turned.set {bo B : Nat} {W : World} (v : Value) : Turned bo B W (W.setCell ⟨bo, 0, none⟩ v) := ⟨rfl, rfl, rfl, by simp [World.setCell], fun i _ hb _ => Below.heap_setCell W ⟨bo, 0, none⟩ v i hb⟩
theorem Turned.grown {bo B : Nat} {W X : World} {row : Option Nat} (h : W.grownBy X row) (hr : ∀ r, row = some r → B ≤ r ∧ ∃ o : Obj, W.heap[r]? = some o ∧ o.isCells = true) : Turned bo B W X :=
  ⟨h.os, h.tape, h.output, h.size, fun i hi _ hc => h.block i hi fun e => by
    obtain ⟨h1, o, h2, h3⟩ := hr i e.symm
    rcases hc with hc | ⟨o', h4, h5⟩
    · omega
    · rw [h2] at h4; cases h4; rw [h3] at h5; cases h5⟩
theorem Turned.kb {bo B : Nat} {W X : World} (h : Turned bo B W X) {S : Nat → Prop} (hS : ∀ k, S k → k < B ∧ k ≠ bo) (hB : B ≤ W.heap.size) : Kb S W X :=
  ⟨h.os, h.tape, h.output, h.size, fun k hk => h.block k (Nat.lt_of_lt_of_le (hS k hk).1 hB) (hS k hk).2 (.inl (hS k hk).1)⟩
theorem Kb.trans {S : Nat → Prop} {A B C : World} (h : Kb S A B) (k : Kb S B C) : Kb S A C :=
  ⟨k.1.trans h.1, k.2.1.trans h.2.1, k.2.2.1.trans h.2.2.1, Nat.le_trans h.2.2.2.1 k.2.2.2.1, h.2.2.2.2.trans k.2.2.2.2⟩
theorem Kb.put {S : Nat → Prop} {W : World} {l : Nat} {o : Obj} (hS : ∀ k, S k → k ≠ l) : Kb S W (W.putObj l o) :=
  ⟨rfl, rfl, rfl, by simp, fun k hk => World.putObj_heap_other (hS k hk)⟩
end Go.Proofs
namespace Go.Proofs
section
variable {F : Fence} {n : Nat} {P : Program} {ops : Array Oper} {Q : Exit → Act → World → Prop} {md : Region.Mode}
theorem count_set : ∀ (l : List Bool) (i : Nat), l[i]? = some false → (l.set i true).count false + 1 = l.count false
  | [], i, h => by simp at h
  | b :: l, 0, h => by
    simp at h
    subst h
    simp
  | b :: l, i + 1, h => by
    have ih := count_set l i (by simpa using h)
    simp only [List.set_cons_succ, List.count_cons]
    omega
theorem ready_mem {listed : Array Bool} {i : Nat} (h : i ∈ Region.ready md ops listed) : i < ops.size ∧ listed.getD i true = false ∧
    ∃ o, ops[i]? = some o ∧ ∀ e ∈ o.after.toList, Region.binds md e = true → listed.getD e.on false = true := by
  simp only [Region.ready, List.mem_filter, List.mem_range, Bool.and_eq_true, Bool.not_eq_true'] at h
  obtain ⟨h1, h2, h3⟩ := h
  refine ⟨h1, h2, ops[i], Array.getElem?_eq_getElem h1, fun e he hb => ?_⟩
  rw [Array.getElem?_eq_getElem h1] at h3
  simp only [Option.map_some, Option.getD_some] at h3
  rw [Array.all_eq_true_iff_forall_mem] at h3
  have := h3 e (by simpa using he)
  simpa [hb] using this
theorem wpAnyIn_inv (I : Array Bool → Act → World → Prop)
    (hstep : ∀ listed a w i, listed.size = ops.size → I listed a w → i ∈ Region.ready md ops listed → wpOpIn F n P ops Q i (I (listed.setIfInBounds i true)) a w)
    (hend : ∀ listed a w, listed.size = ops.size → I listed a w → Region.ready md ops listed = [] → Q .normal a w) :
    ∀ (fuel : Nat) (listed : Array Bool) (a : Act) (w : World), listed.size = ops.size → listed.toList.count false ≤ fuel → I listed a w → wpAnyIn F n P md ops Q fuel listed a w := by
  intro fuel
  induction fuel with
  | zero =>
    intro listed a w hs hc hI
    have hr : Region.ready md ops listed = [] := by
      rw [List.eq_nil_iff_forall_not_mem]
      intro i hi
      obtain ⟨h1, h2, _⟩ := ready_mem hi
      have hlt : i < listed.size := by omega
      have hf : listed[i] = false := by simpa [Array.getD, hlt] using h2
      have : false ∈ listed.toList := by rw [← hf]; simp
      have := List.count_pos_iff.2 this
      omega
    exact ⟨hr, hend _ _ _ hs hI hr⟩
  | succ fuel ih =>
    intro listed a w hs hc hI
    refine ⟨hend _ _ _ hs hI, fun i hi => ?_⟩
    obtain ⟨h1, h2, _⟩ := ready_mem hi
    have hlt : i < listed.size := by omega
    have hf : listed.toList[i]? = some false := by
      have : listed[i] = false := by simpa [Array.getD, hlt] using h2
      simp [hlt, this]
    have hcs := count_set listed.toList i hf
    refine wpOpIn_mono (fun a' w' h' => ih _ a' w' (by simpa using hs) ?_ h') (hstep listed a w i hs hI hi)
    rw [Array.toList_setIfInBounds]
    omega
/-- The frame but for the slots lo, lo+1, .., lo+N-1. -/
structure Same (a0 : Act) (lo N : Nat) (a : Act) : Prop where
  size : a.tmps.size = a0.tmps.size
  defers : a.defers = a0.defers
  out : ∀ t, t < lo ∨ lo + N ≤ t → a.tmps.getD t undef = a0.tmps.getD t undef
theorem Same.refl (a0 : Act) (lo N : Nat) : Same a0 lo N a0 := ⟨rfl, rfl, fun _ _ => rfl⟩
theorem Same.put {a0 a : Act} {lo N i : Nat} (h : Same a0 lo N a) (hi : i < N) (v : Value) : Same a0 lo N (a.put (some (lo + i)) v) :=
  ⟨by simpa [Act.put] using h.size, h.defers, fun t ht => by
    rw [← h.out t ht]
    have hne : lo + i ≠ t := by omega
    simp only [Act.put, Array.getD_eq_getD_getElem?]
    rw [Array.getElem?_setIfInBounds_ne hne]⟩
theorem put_getD_same (a : Act) (t : Nat) (v : Value) (h : t < a.tmps.size) : (a.put (some t) v).tmps.getD t undef = v := by
  simp [Act.put, Array.getD_eq_getD_getElem?, h]
theorem put_getD_ne (a : Act) (t u : Nat) (v : Value) (h : t ≠ u) : (a.put (some t) v).tmps.getD u undef = a.tmps.getD u undef := by
  simp only [Act.put, Array.getD_eq_getD_getElem?]
  rw [Array.getElem?_setIfInBounds_ne h]
/-- Every edge leads back; each of the first N operations has a successor up to N; operation N+1 waits for N. -/
structure Tailed (ops : Array Oper) (N : Nat) : Prop where
  size : ops.size = N + 2
  lex : ∀ (i : Nat) (o : Oper), ops[i]? = some o → ∀ e ∈ o.after.toList, e.on < i
  succ : ∀ i, i < N → ∃ (j : Nat) (o : Oper), i < j ∧ j ≤ N ∧ ops[j]? = some o ∧ ∃ e ∈ o.after.toList, e.on = i ∧ Region.binds .any e = true
  last : ∃ o : Oper, ops[N + 1]? = some o ∧ ∃ e ∈ o.after.toList, e.on = N ∧ Region.binds .any e = true
def tailedB (ops : Array Oper) (N : Nat) : Bool :=
  (ops.size == N + 2) && (List.range ops.size).all (fun i => match ops[i]? with | some o => o.after.toList.all fun e => decide (e.on < i) | none => true) &&
  (List.range N).all (fun i => (List.range (N + 1)).any fun j => decide (i < j) && (match ops[j]? with | some o => o.after.toList.any fun e => (e.on == i) && Region.binds .any e | none => false)) &&
  (match ops[N + 1]? with | some o => o.after.toList.any fun e => (e.on == N) && Region.binds .any e | none => false)
theorem tailed_of {ops : Array Oper} {N : Nat} (h : tailedB ops N = true) : Tailed ops N := by
  unfold tailedB at h
  simp only [Bool.and_eq_true] at h
  obtain ⟨⟨⟨h1, h2⟩, h3⟩, h4⟩ := h
  refine ⟨by simpa using h1, fun i o ho e he => ?_, fun i hi => ?_, ?_⟩
  · rw [List.all_eq_true] at h2
    have hi : i < ops.size := (Array.getElem?_eq_some_iff.1 ho).1
    have := h2 i (by simpa using hi)
    rw [ho] at this
    rw [List.all_eq_true] at this
    simpa using this e he
  · rw [List.all_eq_true] at h3
    have := h3 i (by simpa using hi)
    rw [List.any_eq_true] at this
    obtain ⟨j, hj, hjj⟩ := this
    rw [Bool.and_eq_true] at hjj
    obtain ⟨hij, hm⟩ := hjj
    cases ho : ops[j]? with
    | none => rw [ho] at hm; cases hm
    | some o =>
      rw [ho] at hm
      rw [List.any_eq_true] at hm
      obtain ⟨e, he, hee⟩ := hm
      rw [Bool.and_eq_true] at hee
      exact ⟨j, o, by simpa using hij, by simp at hj; omega, ho, e, he, by simpa using hee.1, hee.2⟩
  · cases ho : ops[N + 1]? with
    | none => rw [ho] at h4; cases h4
    | some o =>
      rw [ho] at h4
      rw [List.any_eq_true] at h4
      obtain ⟨e, he, hee⟩ := h4
      rw [Bool.and_eq_true] at hee
      exact ⟨o, rfl, e, he, by simpa using hee.1, hee.2⟩
/-- listed is closed downwards -/
def Closed (ops : Array Oper) (listed : Array Bool) : Prop := ∀ (i : Nat) (o : Oper), ops[i]? = some o → listed.getD i false = true → ∀ e ∈ o.after.toList, Region.binds .any e = true → listed.getD e.on false = true
theorem getD_set_listed {listed : Array Bool} {i j : Nat} (hi : i < listed.size) : (listed.setIfInBounds i true).getD j false = if i = j then true else listed.getD j false := by
  simp only [Array.getD_eq_getD_getElem?]
  by_cases e : i = j
  · subst e; simp [hi]
  · rw [Array.getElem?_setIfInBounds_ne e, if_neg e]
theorem getD_true_false {listed : Array Bool} {i : Nat} (hi : i < listed.size) : listed.getD i true = listed.getD i false := by
  simp [Array.getD, hi]
section
variable {F : Fence} {n : Nat} {P : Program} {ops : Array Oper} {Q : Exit → Act → World → Prop}
theorem Tailed.before {N : Nat} (ht : Tailed ops N) {listed : Array Bool} (hc : Closed ops listed) {o : Oper} (ho : ops[N]? = some o) (hp : ∀ e ∈ o.after.toList, Region.binds .any e = true → listed.getD e.on false = true) :
    ∀ k i, i < N → N - i ≤ k → listed.getD i false = true := by
  intro k
  induction k with
  | zero => intro i hi hk; omega
  | succ k ih =>
    intro i hi hk
    obtain ⟨j, oj, hij, hjN, hoj, e, he, rfl, hb⟩ := ht.succ i hi
    rcases Nat.lt_or_ge j N with h | h
    · exact hc j oj hoj (ih j h (by omega)) e he hb
    · have : j = N := by omega
      subst this
      rw [ho] at hoj
      cases hoj
      exact hp e he hb
theorem wpIn_region_tail {id : Nat} {a0 : Act} {w : World} (hm : P.follows .mixedOrders = true) (lo N : Nat) (ht : Tailed ops N) (S : World → Prop) (Φ : Nat → Value → World → Prop) (G : World → World → Prop)
    (hΦ : ∀ i v w w', G w w' → Φ i v w → Φ i v w')
    (hsz : lo + N ≤ a0.tmps.size) (h0 : S w.drew)
    (hop : ∀ (i : Nat) (o : Oper) (a : Act) (w : World), i < N → ops[i]? = some o → S w → Same a0 lo N a → (∀ e ∈ o.after.toList, Region.binds .any e = true → Φ e.on (a.tmps.getD (lo + e.on) undef) w) →
      o.guard = none ∧ o.dst = some (lo + i) ∧ o.wpIn F n P a w (fun a' w' => ∃ v, a' = a.put (some (lo + i)) v ∧ S w' ∧ G w w' ∧ Φ i v w') Q)
    (hend : ∀ (a : Act) (w : World), S w → Same a0 lo N a → (∀ i, i < N → Φ i (a.tmps.getD (lo + i) undef) w) →
      wpOpIn F n P ops Q N (fun a' w' => wpOpIn F n P ops Q (N + 1) (fun a'' w'' => Q .normal a'' w'') a' w') a w) :
    (Code.region id ops true).wpIn F n P Q a0 w := by
  refine wpIn_region_any hm ?_
  have hsize := ht.size
  refine wpAnyIn_inv (fun listed a w => Closed ops listed ∧
      ((listed.getD N false = false ∧ listed.getD (N + 1) false = false ∧ S w ∧ Same a0 lo N a ∧ ∀ i, i < N → listed.getD i false = true → Φ i (a.tmps.getD (lo + i) undef) w) ∨
       (listed.getD N false = true ∧ listed.getD (N + 1) false = false ∧ wpOpIn F n P ops Q (N + 1) (fun a'' w'' => Q .normal a'' w'') a w) ∨
       (listed.getD (N + 1) false = true ∧ Q .normal a w))) ?_ ?_ ops.size _ a0 _ (by simp) ?_ ⟨fun i o ho h => ?_, .inl ⟨?_, ?_, h0, Same.refl _ _ _, fun i hi h => ?_⟩⟩
  · rintro listed a w i hls ⟨hcl, hI⟩ hi
    obtain ⟨h1, h2, o, ho, hpre⟩ := ready_mem hi
    rw [getD_true_false (by omega)] at h2
    have hcl' : Closed ops (listed.setIfInBounds i true) := fun j oj hoj hl e he hb => by
      rw [getD_set_listed (by omega)] at hl ⊢
      by_cases eij : i = j
      · subst eij
        rw [ho] at hoj; cases hoj
        have := hpre e he hb
        split
        · rfl
        · exact this
      · rw [if_neg eij] at hl
        have := hcl j oj hoj hl e he hb
        split
        · rfl
        · exact this
    have hsetD : ∀ j, (listed.setIfInBounds i true).getD j false = if i = j then true else listed.getD j false := fun j => getD_set_listed (by omega)
    rcases hI with ⟨hN, hN1, hS, hsame, hsl⟩ | ⟨hN, hN1, hK⟩ | ⟨hN1, hQ⟩
    · rcases Nat.lt_or_ge i N with hiN | hiN
      · obtain ⟨hg, hd, hwp⟩ := hop i o a w hiN ho hS hsame (fun e he hb => by
          have hl := hpre e he hb
          have hlt := ht.lex i o ho e he
          exact hsl e.on (by omega) hl)
        unfold wpOpIn
        rw [ho]
        simp only [Region.wanted, hg, if_true]
        refine Oper.wpIn_mono (fun a' w' h => ?_) hwp
        obtain ⟨v, rfl, hS', hG, hv⟩ := h
        refine ⟨hcl', .inl ⟨by rw [hsetD, if_neg (by omega)]; exact hN, by rw [hsetD, if_neg (by omega)]; exact hN1, hS', hsame.put hiN v, fun j hj hl => ?_⟩⟩
        by_cases e : i = j
        · subst e
          rw [put_getD_same _ _ _ (by rw [hsame.size]; omega)]
          exact hv
        · rw [put_getD_ne _ _ _ _ (by omega)]
          rw [hsetD, if_neg e] at hl
          exact hΦ j _ _ _ hG (hsl j hj hl)
      · have hi2 : i = N ∨ i = N + 1 := by omega
        rcases hi2 with rfl | rfl
        · have hall := ht.before hcl ho hpre
          refine wpOpIn_mono (fun a' w' h => ?_) (hend a w hS hsame (fun j hj => hsl j hj (hall _ j hj (Nat.le_refl _))))
          exact ⟨hcl', .inr (.inl ⟨by rw [hsetD, if_pos rfl], by rw [hsetD, if_neg (by omega)]; exact hN1, h⟩)⟩
        · obtain ⟨o', ho', e, he, heN, hb⟩ := ht.last
          rw [ho] at ho'; cases ho'
          have := hpre e he hb
          rw [heN, hN] at this
          cases this
    · rcases Nat.lt_or_ge i N with hiN | hiN
      · have hoN : ∃ o, ops[N]? = some o := ⟨ops[N]'(by omega), Array.getElem?_eq_getElem (by omega)⟩
        obtain ⟨oN, hoN⟩ := hoN
        have := ht.before hcl hoN (hcl N oN hoN hN) _ i hiN (Nat.le_refl _)
        rw [h2] at this; cases this
      · have hi2 : i = N ∨ i = N + 1 := by omega
        rcases hi2 with rfl | rfl
        · rw [h2] at hN; cases hN
        · refine wpOpIn_mono (fun a' w' h => ?_) hK
          exact ⟨hcl', .inr (.inr ⟨by rw [hsetD, if_pos rfl], h⟩)⟩
    · have hN : listed.getD N false = true := by
        obtain ⟨o', ho', e, he, heN, hb⟩ := ht.last
        have := hcl (N + 1) o' ho' hN1 e he hb
        rwa [heN] at this
      rcases Nat.lt_or_ge i N with hiN | hiN
      · have hoN : ∃ o, ops[N]? = some o := ⟨ops[N]'(by omega), Array.getElem?_eq_getElem (by omega)⟩
        obtain ⟨oN, hoN⟩ := hoN
        have := ht.before hcl hoN (hcl N oN hoN hN) _ i hiN (Nat.le_refl _)
        rw [h2] at this; cases this
      · have hi2 : i = N ∨ i = N + 1 := by omega
        rcases hi2 with rfl | rfl
        · rw [h2] at hN; cases hN
        · rw [h2] at hN1; cases hN1
  · rintro listed a w hls ⟨hcl, hI⟩ hr
    have hready : ∀ i, i < ops.size → listed.getD i false = true := by
      intro i
      induction i using Nat.strongRecOn with
      | _ i ih =>
        intro hi
        rcases hl : listed.getD i false with _ | _
        · have hmem : i ∈ Region.ready .any ops listed := by
            simp only [Region.ready, List.mem_filter, List.mem_range, Bool.and_eq_true, Bool.not_eq_true']
            refine ⟨hi, by rw [getD_true_false (by omega)]; exact hl, ?_⟩
            rw [Array.getElem?_eq_getElem hi]
            simp only [Option.map_some, Option.getD_some]
            rw [Array.all_eq_true_iff_forall_mem]
            intro e he
            have hlt := ht.lex i _ (Array.getElem?_eq_getElem hi) e (by simpa using he)
            simp [ih e.on hlt (by omega)]
          rw [hr] at hmem; cases hmem
        · rfl
    rcases hI with ⟨hN, _⟩ | ⟨_, hN1, _⟩ | ⟨_, hQ⟩
    · rw [hready N (by omega)] at hN; cases hN
    · rw [hready (N + 1) (by omega)] at hN1; cases hN1
    · exact hQ
  · simp
  · have : (Array.replicate ops.size false).getD i false = false := by
      simp only [Array.getD_eq_getD_getElem?, Array.getElem?_replicate]; split <;> rfl
    rw [this] at h; cases h
  · simp only [Array.getD_eq_getD_getElem?, Array.getElem?_replicate]; split <;> rfl
  · simp only [Array.getD_eq_getD_getElem?, Array.getElem?_replicate]; split <;> rfl
  · have : (Array.replicate ops.size false).getD i false = false := by
      simp only [Array.getD_eq_getD_getElem?, Array.getElem?_replicate]; split <;> rfl
    rw [this] at h; cases h
end
end
/-- The frame behind a region, written out. -/
theorem Same.frame {a0 a : Act} {lo N : Nat} (h : Same a0 lo N a) (hsz : lo + N ≤ a0.tmps.size) :
    a = { tmps := (a0.tmps.toList.take lo ++ (List.range N).map (fun i => a.tmps.getD (lo + i) undef) ++ a0.tmps.toList.drop (lo + N)).toArray, defers := a0.defers } := by
  obtain ⟨t, d⟩ := a
  have hd := h.defers
  have hs := h.size
  simp only at hd hs
  subst hd
  congr 1
  apply Array.ext'
  apply List.ext_getElem?
  intro k
  have hg : ∀ j, j < t.size → t.toList[j]? = some (t.getD j undef) := fun j hj => by simp [Array.getD, hj]
  have hg0 : ∀ j, j < a0.tmps.size → a0.tmps.toList[j]? = some (a0.tmps.getD j undef) := fun j hj => by simp [Array.getD, hj]
  rcases Nat.lt_or_ge k t.size with hk | hk
  · rw [hg k hk]
    rcases Nat.lt_or_ge k lo with h1 | h1
    · rw [List.getElem?_append_left (by simp; omega), List.getElem?_append_left (by simp; omega), List.getElem?_take, if_pos h1, hg0 k (by omega), h.out k (.inl h1)]
    · rcases Nat.lt_or_ge k (lo + N) with h2 | h2
      · rw [List.getElem?_append_left (by simp; omega), List.getElem?_append_right (by simp; omega)]
        have e : min lo a0.tmps.size = lo := by omega
        simp [e, List.getElem?_map, List.getElem?_range (show k - lo < N by omega), show lo + (k - lo) = k by omega]
      · rw [List.getElem?_append_right (by simp; omega)]
        have e : min lo a0.tmps.size = lo := by omega
        simp only [List.length_append, List.length_take, List.length_map, List.length_range, Array.length_toList, e, List.getElem?_drop]
        rw [show lo + N + (k - (lo + N)) = k by omega, hg0 k (by omega), h.out k (.inr h2)]
  · rw [List.getElem?_eq_none (by simpa using hk), List.getElem?_eq_none (by simp; omega)]
section
variable {o : Oper} {a : Act} {w w' : World} {n l : Nat} {next : Act → World → Prop} {Q : Exit → Act → World → Prop} {v : Value}
theorem wpR_val (hnc : ∀ c, o.op ≠ .defer c) (hrun : (execOp a.eval o).run Try.prog w = .ok (.value v) w') (h : next (a.put o.dst v) w') : o.wpIn (Fence.wide.inRound l) n Try.prog a w next Q :=
  ⟨fun _ _ => trivial, by rw [show (Fence.wide.inRound l).round = some l from rfl, Oper.semAt_eq _ _ _ (fun c h => hnc c h), hrun]; exact h⟩
theorem wpR_call {f : FuncId} {args : Array Value} {R : Value → World → Prop} (hnc : ∀ c, o.op ≠ .defer c) (hrun : (execOp a.eval o).run Try.prog w = .ok (.enter f args) w')
    (hc : Calls Try.prog f args w' fun e w'' => ∃ v, e = .returned v ∧ R v w'') (h : ∀ v w'', R v w'' → next (a.put o.dst v) w'') : o.wpIn (Fence.wide.inRound l) n Try.prog a w next Q :=
  ⟨fun _ _ => trivial, by
    rw [show (Fence.wide.inRound l).round = some l from rfl, Oper.semAt_eq _ _ _ (fun c h => hnc c h), hrun]
    refine ⟨fun hh => by simp [Fence.inRound, Fence.wide] at hh, ?_⟩
    show CallsIn Fence.wide _ _ _ _ _ _
    refine callsIn_wide.2 (hc.mono ?_)
    rintro e w'' ⟨v, rfl, hR⟩
    exact h v w'' hR⟩
theorem r_fld {T i : Nat} (x : Operand) (ad : Value) (ho : o.op = .fieldAddr T x i) (hx : a.eval x = ad) (hf : (Instr.fieldAt T ad i).run Try.prog w = .ok v w) : (execOp a.eval o).run Try.prog w = .ok (.value v) w := by
  unfold execOp; simp only [ho, hx, Sem.run_bind, hf, Result.andThen_ok]; rfl
theorem r_call2 {f : FuncId} (x y : Operand) (u v : Value) (T : Array TypeId) (ho : o.op = .call { callee := .value (.func f), args := #[x, y], argTypes := T }) (hx : a.eval x = u) (hy : a.eval y = v)
    (he : ∀ args w, (callFunc f args).run Try.prog w = .ok (.enter f args) w) : (execOp a.eval o).run Try.prog w = .ok (.enter f #[u, v]) w := by
  have hf : a.eval (.func f) = .func (.func f) #[] #[] := rfl
  unfold execOp
  simp only [ho, resolve, List.map_toArray, List.map_cons, List.map_nil, hx, hy, hf]
  simp [go_sem, he]
theorem r_call3 {f : FuncId} (x y z : Operand) (u v q : Value) (T : Array TypeId) (ho : o.op = .call { callee := .value (.func f), args := #[x, y, z], argTypes := T }) (hx : a.eval x = u) (hy : a.eval y = v) (hz : a.eval z = q)
    (he : ∀ args w, (callFunc f args).run Try.prog w = .ok (.enter f args) w) : (execOp a.eval o).run Try.prog w = .ok (.enter f #[u, v, q]) w := by
  have hf : a.eval (.func f) = .func (.func f) #[] #[] := rfl
  unfold execOp
  simp only [ho, resolve, List.map_toArray, List.map_cons, List.map_nil, hx, hy, hz, hf]
  simp [go_sem, he]
theorem r_neg (x : Operand) (m : Int) (ho : o.op = .unOp .neg 3 x) (hx : a.eval x = .int .i64 m) (hm : -9223372036854775807 ≤ m ∧ m ≤ 9223372036854775807) : (execOp a.eval o).run Try.prog w = .ok (.value (.int .i64 (-m))) w := by
  have hwr : IntKind.i64.wrap (-m) = -m := IntWalk.i64_in _ (by omega)
  unfold execOp
  simp only [ho, hx]
  simp [go_sem, hwr]
theorem r_loadAt (T : TypeId) (x : Operand) (p u : Value) (ho : o.op = .load T x) (hx : a.eval x = p) (hr : (Instr.loadAt T p).run Try.prog w = .ok u w) : (execOp a.eval o).run Try.prog w = .ok (.value u) w := by
  unfold execOp
  simp only [ho, hx, Sem.run_bind, hr, Result.andThen_ok]
  rfl
end
end Go.Proofs
namespace Go.Proofs
open Go.RowKit Go.Shelf Go.Proofs.Ct Go.Maps
attribute [local simp, local go_sem] wide_fn wide_depth
attribute [local go_sem] Oper.semAt_some
section
variable {o : Oper} {a : Act} {w w' : World} {n : Nat} {Q : Exit → Act → World → Prop} {v : Value}
end
theorem wpOpIn_of {F : Fence} {n : Nat} {P : Program} {ops : Array Oper} {Q : Exit → Act → World → Prop} {i : Nat} {o : Oper} {K : Act → World → Prop} {a : Act} {w : World} (ho : ops[i]? = some o) (hg : o.guard = none) (h : o.wpIn F n P a w K Q) : wpOpIn F n P ops Q i K a w := by
  unfold wpOpIn
  rw [ho]
  simp only [Region.wanted, hg, if_true]
  exact h
theorem r_assign {o : Oper} {a : Act} {w : World} {v : Value} (x : Operand) (ho : o.op = .assign x) (hx : a.eval x = v) : (execOp a.eval o).run Try.prog w = .ok (.value v) w := by
  unfold execOp; simp only [ho, hx]; rfl
end Go.Proofs
namespace Go.Proofs
open Go.RowKit Go.Shelf Go.Proofs.Ct Go.Maps
/-- no letter of a table of g generators -/
def letBad (g : Nat) (x : Int) : Bool := decide (x = 0) || decide (x < -(g : Int)) || decide ((g : Int) < x)
theorem letsOk_of {g : Nat} {w : List Int} (h : w.any (letBad g) = false) : LetsOk g w := fun x hx => by
  have := List.any_eq_false.1 h x hx
  unfold letBad at this
  simp at this
  omega
end Go.Proofs
namespace Go.Proofs
open Go.RowKit Go.Shelf Go.Proofs.Ct Go.Maps
/-- the error of the relator k -/
def presBad (g : Nat) (rels : List W) (k : Nat) : Int := if 4000 < sumTo rels (k + 1) then 4 else if (rels.getD k []).any (letBad g) = true then 2 else 0
def presE (g : Int) (rels : List W) : Int :=
  if g < 1 ∨ 16 < g then 2 else if 100 < rels.length then 4 else
  match first (fun k => decide (presBad g.toNat rels k ≠ 0)) rels.length with
  | some k => presBad g.toNat rels k
  | none => 0
theorem presE_some {g : Nat} {rels : List W} (hg : 1 ≤ g ∧ g ≤ 16) (hl : rels.length ≤ 100) {k : Nat} (hk : k < rels.length) (hz : ∀ j, j < k → presBad g rels j = 0) (hb : presBad g rels k ≠ 0) : presE g rels = presBad g rels k := by
  unfold presE
  rw [if_neg (by omega), if_neg (by omega), first_some hk (by simpa using hb) (fun j hj => by simpa using hz j hj)]
  rfl
theorem presE_none {g : Nat} {rels : List W} (hg : 1 ≤ g ∧ g ≤ 16) (hl : rels.length ≤ 100) (hz : ∀ j, j < rels.length → presBad g rels j = 0) : presE g rels = 0 := by
  unfold presE
  rw [if_neg (by omega), if_neg (by omega), first_none (fun j hj => by simpa using hz j hj)]
theorem pred121 (g B : Nat) (vr : Value) (w : World) (hg : g ≤ 16) (hc : w.cell? ⟨B, 0, none⟩ = some (.int .i64 (g : Int))) (_hc1 : w.cell? ⟨B, 1, none⟩ = some vr) :
    PredW 35 #[.pointer (some ⟨B, 0, none⟩)] (fun x => -9223372036854775808 ≤ x ∧ x ≤ 9223372036854775807) (letBad g) w := fun x q hx => by
  have hcq : (w.drewN q).cell? ⟨B, 0, none⟩ = some (.int .i64 (g : Int)) := hc
  show Calls Try.prog 35 #[.int .i64 x, .pointer (some ⟨B, 0, none⟩)] (w.drewN q) _
  have h0 : letBad g x = (decide (x = 0) || decide (x < -(g : Int)) || decide ((g : Int) < x)) := rfl
  have H0 := Lib.hid h0
  clear h0
  generalize hW : w.drewN q = W at *
  have HW := Lib.hid hW
  clear hW
  have hg0 : (0 : Int) ≤ (g : Int) := Int.natCast_nonneg _
  have hg1 : (g : Int) ≤ 16 := by omega
  by_cases h1 : x = 0
  · subst h1
    go_enter Try.func35, Try.ntmps35
    go_wp2_with fail
    go_ret
    exact ⟨ret_bool (by rw [H0.out]; simp), q, HW.out.symm⟩
  · have d1 : (x == 0) = false := by simpa using h1
    by_cases h2 : x < -(g : Int)
    · go_enter Try.func35, Try.ntmps35
      go_wp2_with fail
      go_ret
      exact ⟨ret_bool (by rw [H0.out]; simp [h2]), q, HW.out.symm⟩
    · by_cases h3 : (g : Int) < x
      · go_enter Try.func35, Try.ntmps35
        go_wp2_with fail
        go_ret
        exact ⟨ret_bool (by rw [H0.out]; simp [h3]), q, HW.out.symm⟩
      · go_enter Try.func35, Try.ntmps35
        go_wp2_with fail
        go_ret
        exact ⟨ret_bool (by rw [H0.out]; simp [h1, h2, h3]), q, HW.out.symm⟩
theorem eg121 : ∀ args w, (callFunc 35 args).run Try.prog w = .ok (.enter 35 args) w := enters_of Try.func35 (by kernel_rfl) rfl
end Go.Proofs
namespace Go.Proofs
open Go.RowKit Go.Shelf Go.Proofs.Ct Go.Maps
def PresPost (g : Int) (rels : List W) (w : World) (e : Ending) (w' : World) : Prop := (∃ y, e = .returned (.tuple #[.int .i64 (presE g rels), .int .i64 y])) ∧ Below w.heap.size w w'
theorem presE_range {g : Int} {rels : List W} (h : g < 1 ∨ 16 < g) : presE g rels = 2 := by unfold presE; rw [if_pos h]
theorem presE_many {g : Int} {rels : List W} (h : ¬ (g < 1 ∨ 16 < g)) (h2 : 100 < rels.length) : presE g rels = 4 := by unfold presE; rw [if_neg h, if_pos h2]
theorem sumTo_succ (rels : List W) (k : Nat) : sumTo rels (k + 1) = sumTo rels k + (rels.getD k []).length := rfl
theorem presBad_long {g : Nat} {rels : List W} {k : Nat} (h : 4000 < sumTo rels (k + 1)) : presBad g rels k = 4 := by unfold presBad; rw [if_pos h]
theorem presBad_let {g : Nat} {rels : List W} {k : Nat} (h : ¬ 4000 < sumTo rels (k + 1)) (h2 : (rels.getD k []).any (letBad g) = true) : presBad g rels k = 2 := by unfold presBad; rw [if_neg h, if_pos h2]
theorem presBad_ok {g : Nat} {rels : List W} {k : Nat} (h : ¬ 4000 < sumTo rels (k + 1)) (h2 : (rels.getD k []).any (letBad g) = false) : presBad g rels k = 0 := by unfold presBad; rw [if_neg h, h2]; rfl
set_option maxRecDepth 100000 in
set_option maxHeartbeats 1000000 in
theorem pcheck78_any (w : World) (vr : Value) (g : Int) (rels : List W) (hR : Tab w vr rels) : Calls Try.prog 19 #[.agg #[.int .i64 g, vr]] w (PresPost g rels w) := by
  obtain ⟨Ar, cr, rfl, r1, r2, r3⟩ := hR.open_
  have hbel : Below w.heap.size w (w.alloc (.cells #[.int .i64 g, .slice Ar rels.length cr] 27)) := (Below.refl _ _).alloc (Nat.le_refl _) _
  have HBE := Lib.hid hbel
  have HR := Lib.hid r3
  have hnew := heap_alloc_new w (.cells #[.int .i64 g, .slice Ar rels.length cr] 27)
  have hn0 : (0 : Int) ≤ (rels.length : Int) := Int.natCast_nonneg _
  by_cases h1 : g < 1 ∨ 16 < g
  · have HZ := Lib.hid (presE_range (rels := rels) h1)
    clear hR r3 hbel hnew
    by_cases h2 : g < 1
    · clear h1
      go_enter Try.func19, Try.ntmps19
      go_wp2_with fail
      go_ret2
      exact ⟨⟨_, ret_pair HZ.out.symm rfl⟩, HBE.out⟩
    · have h3 : 16 < g := by omega
      clear h1
      go_enter Try.func19, Try.ntmps19
      go_wp2_with fail
      go_ret2
      exact ⟨⟨_, ret_pair HZ.out.symm rfl⟩, HBE.out⟩
  · obtain ⟨gn, rfl⟩ : ∃ gn : Nat, g = gn := ⟨g.toNat, by omega⟩
    have hg1 : ¬ (gn : Int) < 1 := by omega
    have hg2 : ¬ (16 : Int) < (gn : Int) := by omega
    by_cases h4 : 100 < rels.length
    · have h4' : (100 : Int) < (rels.length : Int) := by omega
      have HZ := Lib.hid (presE_many (rels := rels) h1 h4)
      clear hR r3 hbel hnew h1 h4
      go_enter Try.func19, Try.ntmps19
      go_wp2_with fail
      go_ret2
      exact ⟨⟨_, ret_pair HZ.out.symm rfl⟩, HBE.out⟩
    · have h4' : ¬ (100 : Int) < (rels.length : Int) := by omega
      have h4'' : (rels.length : Int) ≤ 100 := by omega
      have HS : Hid (∀ k, k < rels.length → (∀ j, j < k → presBad gn rels j = 0) → presBad gn rels k ≠ 0 → presE (gn : Int) rels = presBad gn rels k) := Lib.hid fun k => presE_some (by omega) (by omega)
      have HN := Lib.hid (@presE_none gn rels (by omega) (by omega))
      have HP : Hid (∀ q, PredW 35 #[.pointer (some ⟨w.heap.size, 0, none⟩)] (fun x => -9223372036854775808 ≤ x ∧ x ≤ 9223372036854775807) (letBad gn) ((w.alloc (.cells #[.int .i64 (gn : Int), .slice Ar rels.length cr] 27)).drewN q)) := Lib.hid fun q => pred121 gn w.heap.size (.slice Ar rels.length cr) _ (by omega) (cell_of2 hnew).1 (cell_of2 hnew).2
      clear hR r3 hbel hnew h1 h4
      go_enter Try.func19, Try.ntmps19
      go_wp2_with fail
      generalize hw0 : w.alloc (.cells #[.int .i64 (gn : Int), .slice Ar rels.length cr] 27) = w0 at *
      clear hw0
      go_loopw [4, 24] (fun l i wr => ∃ k s : Nat, i = .int .i64 k ∧ k ≤ rels.length ∧ l = .int .i64 (4000 - (s : Int)) ∧ s ≤ 4000 ∧ Hid (s = sumTo rels k ∧ ∀ j, j < k → presBad gn rels j = 0) ∧ ∃ q, wr = w0.drewN q) (fun _ i _ => rels.length - (intOf i).toNat)
      case atStart => exact ⟨0, 0, rfl, by omega, rfl, by omega, Lib.hid ⟨rfl, fun j hj => absurd hj (by omega)⟩, 0, rfl⟩
      case round =>
        obtain ⟨k, s, rfl, hk, rfl, hs, HK, q, rfl⟩ := hrel
        have hk0 : (0 : Int) ≤ (k : Int) := Int.natCast_nonneg _
        by_cases hlt : k < rels.length
        · have hlt' : (k : Int) < (rels.length : Int) := by omega
          obtain ⟨b, o, rfl, hcc⟩ := HR.out (by omega)
          obtain ⟨u, hu, hI⟩ := hcc k hlt
          have hu' : (w0.drewN q).cell? ⟨b, o + k, none⟩ = some u := (HBE.out.cell (p := ⟨b, o + k, none⟩) (World.block_lt_of_cell? w _ hu)).trans hu
          have HI := Lib.hid (hI.below HBE.out)
          obtain ⟨Au, cu, rfl, u1, u2, -⟩ := hI.open_
          have HSU := Lib.hid (sumTo_succ rels k)
          have HBL := Lib.hid (@presBad_long gn rels k)
          have HBT := Lib.hid (@presBad_let gn rels k)
          have HBO := Lib.hid (@presBad_ok gn rels k)
          have HSK : Hid (presBad gn rels k ≠ 0 → presE gn rels = presBad gn rels k) := Lib.hid (HS.out k hlt HK.out.2)
          have HNX : Hid (presBad gn rels k = 0 → ∀ j, j < k + 1 → presBad gn rels j = 0) := Lib.hid fun h => all_succ HK.out.2 h
          have HSM := Lib.hid HK.out.1
          have HPR := Lib.hid (has74_any 35 _ _ _ (w0.drewN q) eg121 (HP.out q) _ (rels.getD k []) (HI.out.drewN q) (fun x hx => HI.out.2 x hx))
          have hln0 : (0 : Int) ≤ ((rels.getD k []).length : Int) := Int.natCast_nonneg _
          clear hcc hI hu HI HS HN HP HR
          generalize hpe : presE (gn : Int) rels = pe at *
          have HPE := Lib.hid hpe
          clear hpe
          generalize presBad gn rels k = pb at *
          generalize hsm : sumTo rels (k + 1) = sm at *
          have HSME := Lib.hid hsm
          clear hsm
          generalize (rels.getD k []).any (letBad gn) = lb at *
          generalize (rels.getD k []).length = L at *
          have hs0 : (0 : Int) ≤ (s : Int) := Int.natCast_nonneg _
          have hs1 : (s : Int) ≤ 4000 := by omega
          have hL1 : (L : Int) ≤ 9223372036854775807 := by omega
          by_cases hov : 4000 < s + L
          · have hov' : (4000 : Int) - (s : Int) - (L : Int) < 0 := by omega
            have HZ : Hid (pe = 4) := Lib.hid (by have h1 := HBL.out (by rw [HSU.out, ← HSM.out]; exact hov); rw [HSK.out (by omega), h1])
            clear hov
            go_wp2_with fail
            go_ret2
            exact ⟨⟨_, ret_pair (by rw [HPE.out, HZ.out]) rfl⟩, below_drewN HBE.out _⟩
          · have hov' : ¬ (4000 : Int) - (s : Int) - (L : Int) < 0 := by omega
            have HSV := Lib.hid hov
            have hsl : s + L ≤ 4000 := by omega
            clear hov
            cases lb with
            | true =>
              have HZ : Hid (pe = 2) := Lib.hid (by have h1 := HBT.out (by rw [HSU.out, ← HSM.out]; exact HSV.out) rfl; rw [HSK.out (by omega), h1])
              go_wp2_with (go_at_call 34; (refine HPR.out.mono ?_); rintro e w' ⟨rfl, q', rfl⟩)
              go_ret2
              exact ⟨⟨_, ret_pair (by rw [HPE.out, HZ.out]) rfl⟩, below_drewN HBE.out _⟩
            | false =>
              have HZ : Hid (∀ j, j < k + 1 → presBad gn rels j = 0) := Lib.hid (HNX.out (HBO.out (by rw [HSU.out, ← HSM.out]; exact HSV.out) rfl))
              go_wp2_with (go_at_call 34; (refine HPR.out.mono ?_); rintro e w' ⟨rfl, q', rfl⟩)
              go_roundw
              case rel => exact ⟨k + 1, s + L, by go_num, by omega, congrArg (Value.int .i64) (by omega), hsl, Lib.hid ⟨by rw [HSME.out, HSU.out, HSM.out], HZ.out⟩, (by first | exact ⟨_, rfl⟩ | exact ex_drewN)⟩
              case measure => simp [intOf]; omega
        · obtain rfl : k = rels.length := by omega
          have HZ := Lib.hid (HN.out HK.out.2)
          clear HS HN HP HR
          go_wp2_with fail
          go_ret2
          exact ⟨⟨_, ret_pair HZ.out.symm rfl⟩, below_drewN HBE.out _⟩
end Go.Proofs
namespace Go.Proofs
open Go.RowKit Go.Shelf Go.Proofs.Ct Go.Maps
theorem col_pos {x : Int} (h : 0 < x) : ((col x : Nat) : Int) = 2 * (x - 1) := by unfold col; rw [if_pos h]; omega
theorem col_neg {x : Int} (h : ¬ 0 < x) (h0 : x ≠ 0) : ((col x : Nat) : Int) = 2 * (-x - 1) + 1 := by unfold col; rw [if_neg h]; omega
end Go.Proofs
namespace Go.Proofs
open Go.RowKit Go.Shelf Go.Proofs.Ct Go.Maps
theorem take_snoc {α : Type} {d : α} {l : List α} {k : Nat} (h : k < l.length) : l.take (k + 1) = l.take k ++ [l.getD k d] := by
  rw [List.take_add_one, List.getD_eq_getElem?_getD, List.getElem?_eq_getElem h]; rfl
end Go.Proofs
