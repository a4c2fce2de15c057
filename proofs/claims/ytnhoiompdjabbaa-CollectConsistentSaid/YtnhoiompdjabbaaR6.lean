/- The reference's Consistent, New, Order, for every presentation. -/
import Derived.Test.YtnhoiompdjabbaaR4
import Derived.Test.YtnhoiompdjabbaaR5
namespace Go.Proofs
open Go.RowKit Go.Proofs.Pc

section
variable {ops : Array Oper} {rest : List Oper} {o : Oper} {a : Act} {w w' : World} {Q : Exit → Act → World → Prop}
theorem wpList_selStore (T : TypeId) (x y : Nat) {t : TypeId} {p : String} {af : Array Edge} {g : Option (Nat × Bool)} (h : wpList Try.prog ops Q (⟨none, .store T (.tmp x) (.tmp y), t, p, af, g⟩ :: rest) a w) : wpList Try.prog ops Q (⟨none, .store T (.tmp x) (.tmp y), t, p, af, g⟩ :: rest) a w := h
theorem wpList_skip (hg : o.guard = none) (hrun : (execOp a.eval o).run Try.prog w = .ok .skip w') (h : wpList Try.prog ops Q rest (a.put o.dst undef) w') : wpList Try.prog ops Q (o :: rest) a w :=
  wpList_plain hg fun _ hK => by
    unfold Oper.wp
    rw [hrun]
    exact hK _ _ h
end

theorem checkRef_ok {P : PcD} (w : World) (v0 v1 v2 : Value) (hP : PcAt w v0 v1 v2 P) (he : (checkD P).1 = 0) :
    Calls Try.prog 24 #[.agg #[v0, v1, v2]] w fun e w'' => e = .returned (.tuple #[.int .i64 0, .int .i64 0]) ∧ Below w.heap.size w w'' :=
  (checkRef_any w v0 v1 v2 P hP).mono fun e w' ⟨h1, h2⟩ => by
    have : checkD P = (0, 0) := by
      obtain ⟨a, b, c, d⟩ := checkD_ok he
      unfold checkD orElse; rw [if_pos a, b, if_pos rfl, if_pos c, d]
    rw [this] at h1
    exact ⟨h1, h2⟩
theorem cons15_good {P : PcD} (w : World) (v0 v1 v2 : Value) (hP : PcAt w v0 v1 v2 P) (he : (checkD P).1 = 0) :
    Calls Try.prog 15 #[.agg #[v0, v1, v2]] w fun e w' => e = .returned (.tuple #[.bool (consB P), .int .i64 0]) ∧ Below w.heap.size w w' :=
  consRef_good (valid_of_check he) w v0 v1 v2 hP (fun w' hb => checkRef_ok w' v0 v1 v2 (hP.below hb) he)
set_option maxRecDepth 100000 in
set_option maxHeartbeats 400000 in
theorem cons15_bad {P : PcD} (w : World) (v0 v1 v2 : Value) (hP : PcAt w v0 v1 v2 P) (he : (checkD P).1 ≠ 0) :
    Calls Try.prog 15 #[.agg #[v0, v1, v2]] w fun e w' => e = .returned (.tuple #[.bool false, .int .i64 (checkD P).1]) ∧ Below w.heap.size w w' := by
  have d1 : ((checkD P).1 != 0) = true := by simp [he]
  have hb0 : Below w.heap.size w (w.alloc (.cells #[v0, v1, v2] 26)) := (Below.refl _ _).alloc (Nat.le_refl _) _
  have HC := Lib.hid (checkRef_any _ v0 v1 v2 P (hP.below hb0))
  obtain ⟨⟨A0, c0, rfl⟩, ⟨A1, c1, rfl⟩, A2, c2, rfl⟩ := pc_slices hP
  have HB := Lib.hid hb0
  clear hP he hb0
  go_enter Try.func15, Try.ntmps15
  go_wp2_with (go_at_call 24; (refine HC.out.mono ?_); rintro e w' ⟨rfl, hb⟩)
  go_ret2
  exact ⟨rfl, HB.out.trans (hb.mono (by simp))⟩

/-- block bh is the reference's group of P -/
def RGrpAt (w : World) (bh : Nat) (P : PcD) : Prop := ∃ u0 u1 u2, w.heap[bh]? = some (.cells #[u0, u1, u2] 80 (0, 0)) ∧ PcAt w u0 u1 u2 P
theorem RGrpAt.below {w w' : World} {bh : Nat} {P : PcD} (h : RGrpAt w bh P) (hb : Below w.heap.size w w') : RGrpAt w' bh P := by
  obtain ⟨u0, u1, u2, h1, h3⟩ := h
  exact ⟨u0, u1, u2, (hb.block _ (Array.getElem?_eq_some_iff.1 h1).1).trans h1, h3.below hb⟩
set_option maxRecDepth 100000 in
set_option maxHeartbeats 400000 in
theorem new17_bad {P : PcD} (w : World) (v0 v1 v2 : Value) (hP : PcAt w v0 v1 v2 P) (he : (checkD P).1 ≠ 0) :
    Calls Try.prog 17 #[.agg #[v0, v1, v2]] w fun e w' => e = .returned (.tuple #[.pointer none, .int .i64 (checkD P).1]) ∧ Below w.heap.size w w' := by
  have d1 : ((checkD P).1 != 0) = true := by simp [he]
  have hb0 : Below w.heap.size w (w.alloc (.cells #[v0, v1, v2] 26)) := (Below.refl _ _).alloc (Nat.le_refl _) _
  have HC := Lib.hid (cons15_bad _ v0 v1 v2 (hP.below hb0) he)
  obtain ⟨⟨A0, c0, rfl⟩, ⟨A1, c1, rfl⟩, A2, c2, rfl⟩ := pc_slices hP
  have HB := Lib.hid hb0
  clear hP he hb0
  go_enter Try.func17, Try.ntmps17
  go_wp2_with (go_at_call 15; (refine HC.out.mono ?_); rintro e w' ⟨rfl, hb⟩)
  go_ret2
  exact ⟨rfl, HB.out.trans (hb.mono (by simp))⟩
set_option maxRecDepth 100000 in
set_option maxHeartbeats 400000 in
theorem new17_inc {P : PcD} (w : World) (v0 v1 v2 : Value) (hP : PcAt w v0 v1 v2 P) (he : (checkD P).1 = 0) (hc : consB P = false) :
    Calls Try.prog 17 #[.agg #[v0, v1, v2]] w fun e w' => e = .returned (.tuple #[.pointer none, .int .i64 13]) ∧ Below w.heap.size w w' := by
  have hb0 : Below w.heap.size w (w.alloc (.cells #[v0, v1, v2] 26)) := (Below.refl _ _).alloc (Nat.le_refl _) _
  have hC := cons15_good _ v0 v1 v2 (hP.below hb0) he
  rw [hc] at hC
  have HC := Lib.hid hC
  obtain ⟨⟨A0, c0, rfl⟩, ⟨A1, c1, rfl⟩, A2, c2, rfl⟩ := pc_slices hP
  have HB := Lib.hid hb0
  clear hP he hb0 hC hc
  go_enter Try.func17, Try.ntmps17
  go_wp2_with (go_at_call 15; (refine HC.out.mono ?_); rintro e w' ⟨rfl, hb⟩)
  go_ret2
  exact ⟨rfl, HB.out.trans (hb.mono (by simp))⟩
set_option maxRecDepth 100000 in
set_option maxHeartbeats 400000 in
theorem new17_good {P : PcD} (w : World) (v0 v1 v2 : Value) (hP : PcAt w v0 v1 v2 P) (he : (checkD P).1 = 0) (hc : consB P = true) :
    Calls Try.prog 17 #[.agg #[v0, v1, v2]] w fun e w' => (∃ bh, e = .returned (.tuple #[.pointer (some ⟨bh, 0, none⟩), .int .i64 0]) ∧ RGrpAt w' bh P) ∧ Below w.heap.size w w' := by
  have hb0 : Below w.heap.size w (w.alloc (.cells #[v0, v1, v2] 26)) := (Below.refl _ _).alloc (Nat.le_refl _) _
  have hC := cons15_good _ v0 v1 v2 (hP.below hb0) he
  rw [hc] at hC
  have HC := Lib.hid hC
  have HP := Lib.hid hP
  obtain ⟨⟨A0, c0, rfl⟩, ⟨A1, c1, rfl⟩, A2, c2, rfl⟩ := pc_slices hP
  have hrw := heap_alloc_new w (.cells #[.slice A0 P.orders.length c0, .slice A1 P.powers.length c1, .slice A2 P.conj.length c2] 26)
  have HB := Lib.hid hb0
  clear hP he hb0 hC hc
  go_enter Try.func17, Try.ntmps17
  go_wp2_with (first
    | (go_at_call 15; (refine HC.out.mono ?_); rintro e w2 ⟨rfl, hb⟩
       have hrow := (hb.block w.heap.size (by simp)).trans hrw
       have k0 := cell_of_row _ _ 0 _ _ _ hrow
       have k1 := cell_of_row _ _ 1 _ _ _ hrow
       have k2 := cell_of_row _ _ 2 _ _ _ hrow
       simp only [List.getElem?_toArray, List.getElem?_cons_zero, List.getElem?_cons_succ] at k0 k1 k2
       have HB2 := Lib.hid (HB.out.trans (hb.mono (by simp)))
       clear hb hrow))
  go_ret2
  have hal : Below w2.heap.size w2 (w2.alloc (.cells #[.slice A0 P.orders.length c0, .slice A1 P.powers.length c1, .slice A2 P.conj.length c2] 80)) := (Below.refl _ _).alloc (Nat.le_refl _) _
  exact ⟨⟨_, rfl, _, _, _, heap_alloc_new _ _, HP.out.below (HB2.out.trans (hal.mono HB2.out.size))⟩, HB2.out.alloc HB2.out.size _⟩

set_option maxRecDepth 100000 in
set_option maxHeartbeats 400000 in
theorem order19_any {P : PcD} (hs : Small P) (w : World) (bh : Nat) (hg : RGrpAt w bh P) :
    Calls Try.prog 19 #[.pointer (some ⟨bh, 0, none⟩)] w fun e w' => e = .returned (.int .i64 (prod P P.n)) ∧ w' = w := by
  obtain ⟨u0, u1, u2, hh, hP⟩ := hg
  obtain ⟨A0, c0, rfl, hcx0, hmx0, hr0⟩ := hP.1.open_
  have k0 : w.cell? ⟨bh, 0, none⟩ = some (.slice A0 P.orders.length c0) := by rw [cell_of_row _ _ _ _ _ _ hh]; rfl
  have HR0 := Lib.hid hr0
  clear hr0 hP hh
  go_enter Try.func19, Try.ntmps19
  go_wp2_with fail
  go_loop [3, 4] (fun s i => ∃ k : Nat, k ≤ P.orders.length ∧ i = .int .i64 k ∧ s = .int .i64 (prod P k)) (fun _ i => P.orders.length - (intOf i).toNat)
  case atStart => exact ⟨0, Nat.zero_le _, rfl, rfl⟩
  case round =>
    obtain ⟨k, hk, rfl, rfl⟩ := hrel
    by_cases hlt : k < P.orders.length
    · obtain ⟨b0, o0, rfl, hc⟩ := HR0.out (by omega)
      have hck := hc k hlt
      have hm := hs (k + 1) (show k + 1 ≤ P.orders.length by omega)
      have hmw : IntKind.i64.wrap (prod P k * P.orders.getD k 0) = prod P k * P.orders.getD k 0 := IntWalk.i64_in _ (by show _ ≤ prod P (k + 1) ∧ prod P (k + 1) ≤ _; omega)
      have hst : prod P (k + 1) = prod P k * P.orders.getD k 0 := rfl
      have hk0 : (0 : Int) ≤ (k : Int) := Int.natCast_nonneg _
      have hk1 : (k : Int) < (P.orders.length : Int) := by omega
      have HST := Lib.hid hst
      clear hc hm hst
      generalize prod P k = a at *
      generalize P.orders.getD k 0 = y at *
      go_wp2_with fail
      go_round
      case rel => exact ⟨k + 1, by omega, by go_num, by rw [HST.out]⟩
      case measure => simp [intOf]; omega
    · obtain rfl : k = P.orders.length := by omega
      go_wp2_with fail
      go_ret
      exact ⟨rfl, rfl⟩

theorem small_of_check {P : PcD} (he : (checkD P).1 = 0) : Small P := fun k hk => by
  obtain ⟨a, b, c, d⟩ := checkD_ok he
  have : firstNZ (overErr P) k = 0 := by
    have hz := firstNZ_zero c
    clear he a b d c
    induction k with
    | zero => rfl
    | succ k ih => exact firstNZ_step (ih (by omega)) (hz k (by omega))
  exact prod_bd k this b hk

set_option maxRecDepth 100000 in
set_option maxHeartbeats 400000 in
theorem pc_live {P : PcD} (hv : Valid P) (w : World) (bg br : Nat) (hg : GrpAt w bg br P) :
    Calls Try.prog 21 #[.pointer (some ⟨bg, 0, none⟩)] w fun e w' => (∃ u0 u1 u2, e = .returned (.agg #[u0, u1, u2]) ∧ PcAt w' u0 u1 u2 P) ∧ Below w.heap.size w w' := by
  have hb1 : Below w.heap.size w (w.alloc (.cells #[.slice none 0 0, .slice none 0 0, .slice none 0 0] 26)) := (Below.refl _ _).alloc (Nat.le_refl _) _
  have hg1 := hg.below hb1
  have hl := hg1.live
  have hln := heap_alloc_new w (.cells #[.slice none 0 0, .slice none 0 0, .slice none 0 0] 26)
  obtain ⟨u0, u1, u2, hh, hr, hP⟩ := hg1
  have k1 := cell_of_row _ _ 1 _ _ _ hh
  have k2 := cell_of_row _ _ 2 _ _ _ hh
  have k3 := cell_of_row _ _ 3 _ _ _ hh
  simp only [List.getElem?_toArray, List.getElem?_cons_zero, List.getElem?_cons_succ] at k1 k2 k3
  have HC := Lib.hid (copied_validT hv _ u0 u1 u2 hP)
  have HL := Lib.hid hl
  have HB := Lib.hid hb1
  have HN := Lib.hid hln
  obtain ⟨⟨A0, c0, rfl⟩, ⟨A1, c1, rfl⟩, A2, c2, rfl⟩ := pc_slices hP
  clear hg hl hln hh hr hP hb1
  go_enter Try.func21, Try.ntmps21
  go_wp2_with (first
    | (go_at_call 54; (refine (valid_live _ bg br HL.out).mono ?_); rintro e w' ⟨rfl, rfl⟩)
    | (go_at_call 53; (refine HC.out.mono ?_); rintro e w2 ⟨⟨x0, x1, x2, rfl, hp2⟩, hb2⟩
       have hrow := (hb2.block w.heap.size (by simp)).trans HN.out
       have HP2 := Lib.hid hp2
       have HB2 := Lib.hid hb2
       clear hp2 hb2
       obtain ⟨⟨B0, d0, rfl⟩, ⟨B1, d1, rfl⟩, B2, d2, rfl⟩ := pc_slices HP2.out.at_
       have h1c : #[Value.slice B0 P.orders.length d0, Value.slice B1 P.powers.length d1, Value.slice B2 P.conj.length d2].all (·.oneCell') = true := by simp [Value.oneCell']
       have hfin := setRow_heap w2 w.heap.size _ #[Value.slice B0 P.orders.length d0, Value.slice B1 P.powers.length d1, Value.slice B2 P.conj.length d2] 26 (0, 0) hrow)
    | ((with_reducible refine wpList_selStore 26 2 11 ?_); refine wpList_skip rfl (r_store26 (.tmp 2) (.tmp 11) rfl w.heap.size _ #[Value.slice B0 P.orders.length d0, Value.slice B1 P.powers.length d1, Value.slice B2 P.conj.length d2] rfl rfl hrow info26s rfl h1c) ?_))
  have hbs : Below w.heap.size w (w2.setRow w.heap.size #[Value.slice B0 P.orders.length d0, Value.slice B1 P.powers.length d1, Value.slice B2 P.conj.length d2]) :=
    (HB.out.trans (HB2.out.mono HB.out.size)).trans ⟨rfl, rfl, rfl, by rw [World.setRow]; simp, fun k hk => setRow_other w2 _ k _ (by omega)⟩
  refine bodyPost_ret (results_cell_row (P := Try.prog) (p := 2) rfl _ _ w.heap.size 26 _ (0, 0) _ rfl hfin Try.underlying26 rfl (by kernel_rfl)) rfl ⟨⟨_, _, _, rfl, HP2.out _ (fun k C t fr ht hk => ?_)⟩, hbs⟩
  rw [setRow_other w2 _ k _ (fun e => by subst e; rw [hrow] at hk; cases hk; simp at ht)]; exact hk
end Go.Proofs
