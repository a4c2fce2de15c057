/- The contracts of collect.New, Consistent, and of the method Pc. -/
import Derived.Test.YtnhoiompdjabbaaCp
import Derived.Test.YtnhoiompdjabbaaCs
import Derived.Test.YtnhoiompdjabbaaOf
namespace Go.Proofs
open Go.RowKit Go.Proofs.Pc

/-- block bg is the group of P with rules in block br -/
def GrpAt (w : World) (bg br : Nat) (P : PcD) : Prop := ∃ u0 u1 u2, w.heap[bg]? = some (.cells #[.pointer (some ⟨br, 0, none⟩), u0, u1, u2] 64 (0, 0)) ∧ RulesAt w br P ∧ PcAt w u0 u1 u2 P
theorem GrpAt.below {w w' : World} {bg br : Nat} {P : PcD} (h : GrpAt w bg br P) (hb : Below w.heap.size w w') : GrpAt w' bg br P := by
  obtain ⟨u0, u1, u2, h1, h2, h3⟩ := h
  exact ⟨u0, u1, u2, (hb.block _ (Array.getElem?_eq_some_iff.1 h1).1).trans h1, (KC.of_below hb).rules h2, h3.below hb⟩
theorem GrpAt.live {w : World} {bg br : Nat} {P : PcD} (h : GrpAt w bg br P) : Live w bg br := by
  obtain ⟨u0, u1, u2, h1, -⟩ := h
  unfold Live
  rw [cell_of_row _ _ _ _ _ _ h1]; rfl
theorem GrpAt.rules {w : World} {bg br : Nat} {P : PcD} (h : GrpAt w bg br P) : RulesAt w br P := by
  obtain ⟨u0, u1, u2, -, h2, -⟩ := h
  exact h2

theorem sizes_of_valid {P : PcD} (hv : Valid P) : P.orders.length ≤ 1000 ∧ P.powers.length ≤ 1000 ∧ (∀ k, k < P.powers.length → (P.powers.getD k []).length ≤ 1000) ∧ P.conj.length ≤ 1000 ∧ (∀ k, k < P.conj.length → (P.conj.getD k []).length ≤ 1000) ∧
    (∀ k, k < P.conj.length → ∀ i, i < (P.conj.getD k []).length → ((P.conj.getD k []).getD i []).length ≤ 1000) := by
  have h12 := hv.n12
  have hn : P.n = P.orders.length := rfl
  refine ⟨by omega, by rw [hv.npow]; omega, fun k hk => ?_, by rw [hv.ncj]; omega, fun k hk => ?_, fun k hk i hi => ?_⟩
  · have := (hv.pow k (by rw [← hv.npow]; exact hk)).1
    unfold PcD.pow at this
    omega
  · have := hv.cjl k (by rw [← hv.ncj]; exact hk)
    have hk' : k < P.n := by rw [← hv.ncj]; exact hk
    omega
  · have hk' : k < P.n := by rw [← hv.ncj]; exact hk
    have h1 := hv.cjl k hk'
    have := (hv.cj k hk' i (by omega)).1
    unfold PcD.cj at this
    omega
theorem copied_valid {P : PcD} (hv : Valid P) (w : World) (v0 v1 v2 : Value) (hP : PcAt w v0 v1 v2 P) :
    Calls Try.prog 53 #[.agg #[v0, v1, v2]] w fun e w' => (∃ u0 u1 u2, e = .returned (.agg #[u0, u1, u2]) ∧ PcAt w' u0 u1 u2 P) ∧ Below w.heap.size w w' :=
  let ⟨a, b, c, d, e, f⟩ := sizes_of_valid hv
  copied_any w v0 v1 v2 P hP a b c d e f

theorem copied_validT {P : PcD} (hv : Valid P) (w : World) (v0 v1 v2 : Value) (hP : PcAt w v0 v1 v2 P) :
    Calls Try.prog 53 #[.agg #[v0, v1, v2]] w fun e w' => (∃ u0 u1 u2, e = .returned (.agg #[u0, u1, u2]) ∧ PcT w' u0 u1 u2 P) ∧ Below w.heap.size w w' :=
  let ⟨a, b, c, d, e, f⟩ := sizes_of_valid hv
  copied_T w v0 v1 v2 P hP a b c d e f

theorem pc_slices {w : World} {v0 v1 v2 : Value} {P : PcD} (hP : PcAt w v0 v1 v2 P) : (∃ A c, v0 = .slice A P.orders.length c) ∧ (∃ A c, v1 = .slice A P.powers.length c) ∧ ∃ A c, v2 = .slice A P.conj.length c := by
  obtain ⟨A0, n0, h0, -⟩ := hP.1.open_
  obtain ⟨A1, n1, h1, -⟩ := hP.2.1.open_
  obtain ⟨A2, n2, h2, -⟩ := hP.2.2.open_
  exact ⟨⟨_, _, h0⟩, ⟨_, _, h1⟩, _, _, h2⟩

set_option maxRecDepth 100000 in
set_option maxHeartbeats 400000 in
theorem cons14_bad (w : World) (v0 v1 v2 : Value) (P : PcD) (hP : PcAt w v0 v1 v2 P) (he : (checkD P).1 ≠ 0) :
    Calls Try.prog 14 #[.agg #[v0, v1, v2]] w fun e w' => e = .returned (.tuple #[.bool false, .int .i64 (checkD P).1]) ∧ Below w.heap.size w w' := by
  have d1 : ((checkD P).1 != 0) = true := by simp [he]
  have hb0 : Below w.heap.size w (w.alloc (.cells #[v0, v1, v2] 26)) := (Below.refl _ _).alloc (Nat.le_refl _) _
  have HC := Lib.hid (of_bad _ v0 v1 v2 P (hP.below hb0) he)
  obtain ⟨⟨A0, c0, rfl⟩, ⟨A1, c1, rfl⟩, A2, c2, rfl⟩ := pc_slices hP
  have HB := Lib.hid hb0
  clear hP he hb0
  go_enter Try.func14, Try.ntmps14
  go_wp2_with (go_at_call 47; (refine HC.out.mono ?_); rintro e w' ⟨rfl, hb⟩)
  go_ret2
  exact ⟨rfl, HB.out.trans (hb.mono (by simp))⟩
set_option maxRecDepth 100000 in
set_option maxHeartbeats 400000 in
theorem cons14_good (w : World) (v0 v1 v2 : Value) (P : PcD) (hP : PcAt w v0 v1 v2 P) (he : (checkD P).1 = 0) :
    Calls Try.prog 14 #[.agg #[v0, v1, v2]] w fun e w' => e = .returned (.tuple #[.bool (consB P), .int .i64 0]) ∧ Below w.heap.size w w' := by
  have hb0 : Below w.heap.size w (w.alloc (.cells #[v0, v1, v2] 26)) := (Below.refl _ _).alloc (Nat.le_refl _) _
  have HC := Lib.hid (of_good _ v0 v1 v2 P (hP.below hb0) he)
  have hv := valid_of_check he
  obtain ⟨⟨A0, c0, rfl⟩, ⟨A1, c1, rfl⟩, A2, c2, rfl⟩ := pc_slices hP
  have HB := Lib.hid hb0
  clear hP he hb0
  go_enter Try.func14, Try.ntmps14
  go_wp2_with (first
    | (go_at_call 47; (refine HC.out.mono ?_); rintro e w1 ⟨⟨br, rfl, hr, -⟩, hb1⟩)
    | (go_at_call 48; (refine (cons_any hv _ br hr).mono ?_); rintro e w2 ⟨rfl, hb2⟩))
  go_ret2
  exact ⟨rfl, HB.out.trans ((hb1.trans (hb2.mono hb1.size)).mono (by simp))⟩

set_option maxRecDepth 100000 in
set_option maxHeartbeats 400000 in
theorem new_bad (w : World) (v0 v1 v2 : Value) (P : PcD) (hP : PcAt w v0 v1 v2 P) (he : (checkD P).1 ≠ 0) :
    Calls Try.prog 16 #[.agg #[v0, v1, v2]] w fun e w' => e = .returned (.tuple #[.pointer none, .int .i64 (checkD P).1]) ∧ Below w.heap.size w w' := by
  have d1 : ((checkD P).1 != 0) = true := by simp [he]
  have hb0 : Below w.heap.size w (w.alloc (.cells #[v0, v1, v2] 26)) := (Below.refl _ _).alloc (Nat.le_refl _) _
  have HC := Lib.hid (of_bad _ v0 v1 v2 P (hP.below hb0) he)
  obtain ⟨⟨A0, c0, rfl⟩, ⟨A1, c1, rfl⟩, A2, c2, rfl⟩ := pc_slices hP
  have HB := Lib.hid hb0
  clear hP he hb0
  go_enter Try.func16, Try.ntmps16
  go_wp2_with (go_at_call 47; (refine HC.out.mono ?_); rintro e w' ⟨rfl, hb⟩)
  go_ret2
  exact ⟨rfl, HB.out.trans (hb.mono (by simp))⟩
set_option maxRecDepth 100000 in
set_option maxHeartbeats 400000 in
theorem new_inc (w : World) (v0 v1 v2 : Value) (P : PcD) (hP : PcAt w v0 v1 v2 P) (he : (checkD P).1 = 0) (hc : consB P = false) :
    Calls Try.prog 16 #[.agg #[v0, v1, v2]] w fun e w' => e = .returned (.tuple #[.pointer none, .int .i64 13]) ∧ Below w.heap.size w w' := by
  have hb0 : Below w.heap.size w (w.alloc (.cells #[v0, v1, v2] 26)) := (Below.refl _ _).alloc (Nat.le_refl _) _
  have HC := Lib.hid (of_good _ v0 v1 v2 P (hP.below hb0) he)
  have hv := valid_of_check he
  obtain ⟨⟨A0, c0, rfl⟩, ⟨A1, c1, rfl⟩, A2, c2, rfl⟩ := pc_slices hP
  have HB := Lib.hid hb0
  have HK := Lib.hid hc
  clear hP he hb0 hc
  go_enter Try.func16, Try.ntmps16
  go_wp2_with (first
    | (go_at_call 47; (refine HC.out.mono ?_); rintro e w1 ⟨⟨br, rfl, hr, -⟩, hb1⟩)
    | (go_at_call 48; (refine (cons_any hv _ br hr).mono ?_); rintro e w2 ⟨rfl, hb2⟩; rw [HK.out]))
  go_ret2
  exact ⟨rfl, HB.out.trans ((hb1.trans (hb2.mono hb1.size)).mono (by simp))⟩
set_option maxRecDepth 100000 in
set_option maxHeartbeats 400000 in
theorem new_good (w : World) (v0 v1 v2 : Value) (P : PcD) (hP : PcAt w v0 v1 v2 P) (he : (checkD P).1 = 0) (hc : consB P = true) :
    Calls Try.prog 16 #[.agg #[v0, v1, v2]] w fun e w' => (∃ bg br, e = .returned (.tuple #[.pointer (some ⟨bg, 0, none⟩), .int .i64 0]) ∧ GrpAt w' bg br P ∧ w.heap.size ≤ bg) ∧ Below w.heap.size w w' := by
  have hb0 : Below w.heap.size w (w.alloc (.cells #[v0, v1, v2] 26)) := (Below.refl _ _).alloc (Nat.le_refl _) _
  have HP := Lib.hid (hP.below hb0)
  have HC := Lib.hid (of_good _ v0 v1 v2 P (hP.below hb0) he)
  have hv := valid_of_check he
  obtain ⟨⟨A0, c0, rfl⟩, ⟨A1, c1, rfl⟩, A2, c2, rfl⟩ := pc_slices hP
  have hrw := heap_alloc_new w (.cells #[.slice A0 P.orders.length c0, .slice A1 P.powers.length c1, .slice A2 P.conj.length c2] 26)
  have HB := Lib.hid hb0
  have HK := Lib.hid hc
  clear hP he hb0 hc
  go_enter Try.func16, Try.ntmps16
  go_wp2_with (first
    | (go_at_call 47; (refine HC.out.mono ?_); rintro e w1 ⟨⟨br, rfl, hr, -⟩, hb1⟩)
    | (go_at_call 48; (refine (cons_any hv _ br hr).mono ?_); rintro e w2 ⟨rfl, hb2⟩; rw [HK.out]
       have hb3 := hb1.trans (hb2.mono hb1.size)
       have hrr := (KC.of_below hb2).rules hr
       have hrow := (hb3.block w.heap.size (by simp)).trans hrw
       have k0 := cell_of_row _ _ 0 _ _ _ hrow
       have k1 := cell_of_row _ _ 1 _ _ _ hrow
       have k2 := cell_of_row _ _ 2 _ _ _ hrow
       simp only [List.getElem?_toArray, List.getElem?_cons_zero, List.getElem?_cons_succ] at k0 k1 k2
       have HP2 := Lib.hid (HP.out.below hb3)
       have HRR := Lib.hid hrr
       have HB3 := Lib.hid (HB.out.trans (hb3.mono (by simp)))
       clear hb1 hb2 hr hrr hb3 hrow)
    | (go_at_call 53; (refine (copied_valid hv _ _ _ _ HP2.out).mono ?_); rintro e w3 ⟨⟨u0, u1, u2, rfl, hpc⟩, hb4⟩
       obtain ⟨⟨B0, d0, rfl⟩, ⟨B1, d1, rfl⟩, B2, d2, rfl⟩ := pc_slices hpc
       have HPC := Lib.hid hpc
       have HB4 := Lib.hid hb4
       clear hpc hb4))
  go_ret2
  have hal : Below w3.heap.size w3 (w3.alloc (.cells #[.pointer (some ⟨br, 0, none⟩), .slice B0 P.orders.length d0, .slice B1 P.powers.length d1, .slice B2 P.conj.length d2] 64)) := (Below.refl _ _).alloc (Nat.le_refl _) _
  have hbb := HB3.out.trans (HB4.out.mono HB3.out.size)
  refine ⟨⟨_, br, rfl, ⟨_, _, _, heap_alloc_new _ _, (KC.of_below (HB4.out.trans (hal.mono HB4.out.size))).rules HRR.out, HPC.out.below hal⟩, hbb.size⟩, hbb.alloc hbb.size _⟩
end Go.Proofs
