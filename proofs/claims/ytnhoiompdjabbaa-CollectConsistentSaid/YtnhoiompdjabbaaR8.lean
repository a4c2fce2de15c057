/- The walk of CollectConsistent. -/
import Derived.Test.YtnhoiompdjabbaaR6
import Derived.Test.YtnhoiompdjabbaaR7
import Derived.Test.YtnhoiompdjabbaaAw
import Derived.Test.YtnhoiompdjabbaaInv4
namespace Go.Proofs
open Go.RowKit Go.Proofs.Pc
attribute [local go_sem ↓] Go.wp_at_zero Go.wp_at_succ
attribute [local simp, local go_sem] wide_fn wide_depth
theorem call13 (args : Array Value) (w : World) : (callFunc 13 args).run Try.prog w = .ok (.enter 13 args) w :=
  enters_of Try.func13 (by kernel_rfl) rfl args w
theorem r_call0 {o : Oper} {a : Act} {w : World} {f : FuncId} (T : Array TypeId) (ho : o.op = .call { callee := .value (.func f), args := #[], argTypes := T })
    (he : ∀ args w, (callFunc f args).run Try.prog w = .ok (.enter f args) w) : (execOp a.eval o).run Try.prog w = .ok (.enter f #[]) w := by
  have hf : a.eval (.func f) = .func (.func f) #[] #[] := rfl
  unfold execOp
  simp only [ho, resolve, List.map_toArray, List.map_nil, hf]
  simp [go_sem, he]
def svN : List SW := [SW.c (.pointer none), SW.c (.bool true), SW.c (.bool true), SW.c undef, SW.c undef, SW.c undef, SW.c undef, SW.c undef, SW.c undef, SW.c undef, SW.c undef, SW.c undef, SW.c undef, SW.c undef, SW.c (.bool true), SW.c (.bool true), SW.c (.bool true), SW.c (.bool true)]

theorem order_prog {P : PcD} (he : (checkD P).1 = 0) (w : World) (bg br : Nat) (hg : GrpAt w bg br P) :
    Calls Try.prog 18 #[.pointer (some ⟨bg, 0, none⟩)] w fun e w' => e = .returned (.int .i64 (prod P P.n)) ∧ w' = w := order_live (valid_of_check he) (small_of_check he) w bg br hg.live hg.rules

set_option maxRecDepth 100000 in
set_option maxHeartbeats 4000000 in
theorem cc_bad_in (w : World) (v0 v1 v2 : Value) (P : PcD) (hP : PcAt w v0 v1 v2 P) (he : (checkD P).1 ≠ 0) :
    CallsIn Fence.wide 3 Try.prog 3 #[.agg #[v0, v1, v2]] w fun e w' => e = .returned (.bool true) ∧ Below w.heap.size w w' := by
  obtain ⟨⟨A0, c0, rfl⟩, ⟨A1, c1, rfl⟩, A2, c2, rfl⟩ := pc_slices hP
  have HP := Lib.hid hP
  have HE := Lib.hid he
  clear he
  have HD := Lib.hid (show Bd w (.slice A0 P.orders.length c0) (.slice A1 P.powers.length c1) (.slice A2 P.conj.length c2) (w.alloc (.cells #[.slice A0 P.orders.length c0, .slice A1 P.powers.length c1, .slice A2 P.conj.length c2] 26)) from ⟨(Below.refl _ _).alloc (Nat.le_refl _) _, heap_alloc_new w _⟩)
  clear hP
  have tok : True := trivial
  gi_enter Try.func3, Try.ntmps3
  gi_wp2_with (first
    | (gi_at_call 11; (refine (callsIn_wide.2 (vast_any _ _ _ _ P (HP.out.below HD.out.below))).mono ?_); rintro e w' ⟨⟨b, rfl⟩, hb⟩; have HD := Lib.hid (HD.out.step hb); have k0 := HD.out.c0; have k1 := HD.out.c1; have k2 := HD.out.c2; clear hb)
    | (gi_at_call 12; (refine (callsIn_wide.2 (heavy_any _ _ _ _ P (HP.out.below HD.out.below))).mono ?_); rintro e w' ⟨⟨b2, rfl⟩, hb⟩; have HD := Lib.hid (HD.out.step hb); have k0 := HD.out.c0; have k1 := HD.out.c1; have k2 := HD.out.c2; clear hb)
    | (gi_at_call 13; (refine (callsIn_wide.2 (awake_any _)).mono ?_); rintro e w' ⟨rfl, hb⟩; have HD := Lib.hid (HD.out.step hb); clear hb)
    | (gi_at_call 14; (refine (callsIn_wide.2 (cons14_bad _ _ _ _ P (HP.out.below HD.out.below) HE.out)).mono ?_); rintro e w' ⟨rfl, hb⟩; have HD := Lib.hid (HD.out.step hb); have k0 := HD.out.c0; have k1 := HD.out.c1; have k2 := HD.out.c2; clear hb)
    | (gi_at_call 15; (refine (callsIn_wide.2 (cons15_bad _ _ _ _ (HP.out.below HD.out.below) HE.out)).mono ?_); rintro e w' ⟨rfl, hb⟩; have HD := Lib.hid (HD.out.step hb); have k0 := HD.out.c0; have k1 := HD.out.c1; have k2 := HD.out.c2; clear hb)
    | (gi_at_call 16; (refine (callsIn_wide.2 (new_bad _ _ _ _ P (HP.out.below HD.out.below) HE.out)).mono ?_); rintro e wn ⟨rfl, hb⟩; have HD := Lib.hid (HD.out.step hb); have k0 := HD.out.c0; have k1 := HD.out.c1; have k2 := HD.out.c2; clear hb)
    | (gi_at_call 17; (refine (callsIn_wide.2 (new17_bad _ _ _ _ (HP.out.below HD.out.below) HE.out)).mono ?_); rintro e wn ⟨rfl, hb⟩; have HD := Lib.hid (HD.out.step hb); have k0 := HD.out.c0; have k1 := HD.out.c1; have k2 := HD.out.c2; clear hb))
  iterate 2
    · exact bodyPost_ret (results_tmp (t := 2) rfl _ _ _) rfl ⟨rfl, HD.out.below⟩
  refine wpIn_region_g (by kernel_rfl) (fun i => 54 + i) 18 (tailed1_of (by kernel_rfl)) (fun _ w' => Below wn.heap.size wn w') (fun q v w => (svN.getD q SW.any).holds v w) (fun _ w w' => Below w.heap.size w w') (fun i j _ _ h => by simpa using h) (fun i j v w w' _ _ _ h => SW.keep h) (fun i hi => by show 54 + i < 72; omega) (Below.refl _ _).drew ?_ ?_
  · intro ls q o a w2 hq ho hS hls hsame hpre
    have hsz : a.tmps.size = 72 := hsame.size
    have hcases : q = 0 ∨ q = 1 ∨ q = 2 ∨ q = 3 ∨ q = 4 ∨ q = 5 ∨ q = 6 ∨ q = 7 ∨ q = 8 ∨ q = 9 ∨ q = 10 ∨ q = 11 ∨ q = 12 ∨ q = 13 ∨ q = 14 ∨ q = 15 ∨ q = 16 ∨ q = 17 := by omega
    rcases hcases with rfl | rfl | rfl | rfl | rfl | rfl | rfl | rfl | rfl | rfl | rfl | rfl | rfl | rfl | rfl | rfl | rfl | rfl
    · obtain rfl := Option.some.inj ho; exact wpOpIn_of rfl rfl (wpW_val (r_move (.tmp 8) rfl (hsame.out 8 (fun i _ h => by omega))) ⟨_, rfl, hS, Below.refl _ _, rfl⟩)
    · obtain rfl := Option.some.inj ho; exact wpOpIn_of rfl rfl (wpW_val (r_eqptr (.tmp 54) (.const (.pointer none)) rfl (hpre ⟨0, .data⟩ (by simp) rfl) rfl (by kernel_rfl)) ⟨_, rfl, hS, Below.refl _ _, rfl⟩)
    · obtain rfl := Option.some.inj ho; exact wpOpIn_of rfl rfl (wpW_val (r_move (.tmp 55) rfl (hpre ⟨1, .data⟩ (by simp) rfl)) ⟨_, rfl, hS, Below.refl _ _, rfl⟩)
    · obtain rfl := Option.some.inj ho; exact wpOpIn_no rfl rfl (by rw [yielded_of (g := 2) (t := 56) (b := true) rfl rfl (by omega) (hpre ⟨2, .guard⟩ (by simp) rfl)]; simp) ⟨_, rfl, hS, Below.refl _ _, rfl⟩
    · obtain rfl := Option.some.inj ho; exact wpOpIn_no rfl rfl (by rw [yielded_of (g := 2) (t := 56) (b := true) rfl rfl (by omega) (hpre ⟨2, .guard⟩ (by simp) rfl)]; simp) ⟨_, rfl, hS, Below.refl _ _, rfl⟩
    · obtain rfl := Option.some.inj ho; exact wpOpIn_no rfl rfl (by rw [yielded_of (g := 2) (t := 56) (b := true) rfl rfl (by omega) (hpre ⟨2, .guard⟩ (by simp) rfl)]; simp) ⟨_, rfl, hS, Below.refl _ _, rfl⟩
    · obtain rfl := Option.some.inj ho; exact wpOpIn_no rfl rfl (by rw [yielded_of (g := 2) (t := 56) (b := true) rfl rfl (by omega) (hpre ⟨2, .guard⟩ (by simp) rfl)]; simp) ⟨_, rfl, hS, Below.refl _ _, rfl⟩
    · obtain rfl := Option.some.inj ho; exact wpOpIn_no rfl rfl (by rw [yielded_of (g := 2) (t := 56) (b := true) rfl rfl (by omega) (hpre ⟨2, .guard⟩ (by simp) rfl)]; simp) ⟨_, rfl, hS, Below.refl _ _, rfl⟩
    · obtain rfl := Option.some.inj ho; exact wpOpIn_no rfl rfl (by rw [yielded_of (g := 2) (t := 56) (b := true) rfl rfl (by omega) (hpre ⟨2, .guard⟩ (by simp) rfl)]; simp) ⟨_, rfl, hS, Below.refl _ _, rfl⟩
    · obtain rfl := Option.some.inj ho; exact wpOpIn_no rfl rfl (yielded_undef (g := 8) (t := 62) rfl rfl (by omega) (hpre ⟨8, .guard⟩ (by simp) rfl)) ⟨_, rfl, hS, Below.refl _ _, rfl⟩
    · obtain rfl := Option.some.inj ho; exact wpOpIn_no rfl rfl (yielded_undef (g := 8) (t := 62) rfl rfl (by omega) (hpre ⟨8, .guard⟩ (by simp) rfl)) ⟨_, rfl, hS, Below.refl _ _, rfl⟩
    · obtain rfl := Option.some.inj ho; exact wpOpIn_no rfl rfl (yielded_undef (g := 8) (t := 62) rfl rfl (by omega) (hpre ⟨8, .guard⟩ (by simp) rfl)) ⟨_, rfl, hS, Below.refl _ _, rfl⟩
    · obtain rfl := Option.some.inj ho; exact wpOpIn_no rfl rfl (yielded_undef (g := 8) (t := 62) rfl rfl (by omega) (hpre ⟨8, .guard⟩ (by simp) rfl)) ⟨_, rfl, hS, Below.refl _ _, rfl⟩
    · obtain rfl := Option.some.inj ho; exact wpOpIn_no rfl rfl (by rw [yielded_of (g := 2) (t := 56) (b := true) rfl rfl (by omega) (hpre ⟨2, .guard⟩ (by simp) rfl)]; simp) ⟨_, rfl, hS, Below.refl _ _, rfl⟩
    · obtain rfl := Option.some.inj ho; exact wpOpIn_of rfl rfl (wpW_val (r_pick (.tmp 56) (.const (.bool true)) (.tmp 67) true rfl (hpre ⟨2, .data⟩ (by simp) rfl) rfl) ⟨_, rfl, hS, Below.refl _ _, rfl⟩)
    · obtain rfl := Option.some.inj ho; exact wpOpIn_of rfl rfl (wpW_val (r_move (.tmp 68) rfl (hpre ⟨14, .data⟩ (by simp) rfl)) ⟨_, rfl, hS, Below.refl _ _, rfl⟩)
    · obtain rfl := Option.some.inj ho; exact wpOpIn_yes rfl rfl (yielded_of (g := 15) (t := 69) (b := true) rfl rfl (by omega) (hpre ⟨15, .guard⟩ (by simp) rfl)) (wpW_call (R := fun v w' => v = .bool true ∧ Below w2.heap.size w2 w') (r_call0 _ rfl call13) ((awake_any w2).mono fun e w' ⟨he, hb⟩ => ⟨_, he, rfl, hb⟩) (fun v w'' h => ⟨v, rfl, hS.trans (h.2.mono hS.size), h.2, h.1⟩))
    · obtain rfl := Option.some.inj ho; exact wpOpIn_of rfl rfl (wpW_val (r_pick (.tmp 69) (.tmp 70) (.const (.bool false)) true rfl (hpre ⟨15, .data⟩ (by simp) rfl) (by exact hpre ⟨16, .data⟩ (by simp) rfl)) ⟨_, rfl, hS, Below.refl _ _, rfl⟩)
  · intro ls a w2 hS hlst hsame hsl
    have h71 : a.tmps.getD 71 undef = .bool true := hsl 17 (by omega)
    obtain ⟨vs, hvs, hfr⟩ := hsame.frameV 72 rfl
    refine wpOpIn_of (o := ⟨some 2, .assign (.tmp 71), 4, "law.go:154", _, none⟩) rfl rfl (wpW_val (r_asg (.tmp 71) rfl h71) ?_)
    have HD := Lib.hid (HD.out.step hS)
    clear hsl hsame h71 hS hlst hvs
    subst hfr
    dsimp only
    simp only [Act.put, List.range, List.range.loop, List.map_cons, List.map_nil, List.any_cons, List.any_nil, Nat.reduceAdd, Nat.reduceBEq, Bool.or_false, Bool.or_true, Bool.false_eq_true, if_true, if_false, List.getD_cons_zero, List.getD_cons_succ, List.setIfInBounds_toArray, List.set_cons_succ, List.set_cons_zero]
    gi_wp2_with fail
    exact bodyPost_ret (results_tmp (t := 2) rfl _ _ _) rfl ⟨rfl, HD.out.below⟩
theorem cc_bad (w : World) (v0 v1 v2 : Value) (P : PcD) (hP : PcAt w v0 v1 v2 P) (he : (checkD P).1 ≠ 0) :
    Calls Try.prog 3 #[.agg #[v0, v1, v2]] w fun e w' => e = .returned (.bool true) ∧ Below w.heap.size w w' := callsIn_wide.1 (cc_bad_in w v0 v1 v2 P hP he)

set_option maxRecDepth 100000 in
set_option maxHeartbeats 4000000 in
theorem cc_inc_in (w : World) (v0 v1 v2 : Value) (P : PcD) (hP : PcAt w v0 v1 v2 P) (he : (checkD P).1 = 0) (hc : consB P = false) :
    CallsIn Fence.wide 3 Try.prog 3 #[.agg #[v0, v1, v2]] w fun e w' => e = .returned (.bool true) ∧ Below w.heap.size w w' := by
  obtain ⟨⟨A0, c0, rfl⟩, ⟨A1, c1, rfl⟩, A2, c2, rfl⟩ := pc_slices hP
  have HP := Lib.hid hP
  have HE := Lib.hid he
  have HC := Lib.hid hc
  clear he hc
  have HD := Lib.hid (show Bd w (.slice A0 P.orders.length c0) (.slice A1 P.powers.length c1) (.slice A2 P.conj.length c2) (w.alloc (.cells #[.slice A0 P.orders.length c0, .slice A1 P.powers.length c1, .slice A2 P.conj.length c2] 26)) from ⟨(Below.refl _ _).alloc (Nat.le_refl _) _, heap_alloc_new w _⟩)
  clear hP
  have tok : True := trivial
  gi_enter Try.func3, Try.ntmps3
  gi_wp2_with (first
    | (gi_at_call 11; (refine (callsIn_wide.2 (vast_any _ _ _ _ P (HP.out.below HD.out.below))).mono ?_); rintro e w' ⟨⟨b, rfl⟩, hb⟩; have HD := Lib.hid (HD.out.step hb); have k0 := HD.out.c0; have k1 := HD.out.c1; have k2 := HD.out.c2; clear hb)
    | (gi_at_call 12; (refine (callsIn_wide.2 (heavy_any _ _ _ _ P (HP.out.below HD.out.below))).mono ?_); rintro e w' ⟨⟨b2, rfl⟩, hb⟩; have HD := Lib.hid (HD.out.step hb); have k0 := HD.out.c0; have k1 := HD.out.c1; have k2 := HD.out.c2; clear hb)
    | (gi_at_call 13; (refine (callsIn_wide.2 (awake_any _)).mono ?_); rintro e w' ⟨rfl, hb⟩; have HD := Lib.hid (HD.out.step hb); clear hb)
    | (gi_at_call 14; (refine (callsIn_wide.2 (cons14_good _ _ _ _ P (HP.out.below HD.out.below) HE.out)).mono ?_); rintro e w' ⟨rfl, hb⟩; have HD := Lib.hid (HD.out.step hb); have k0 := HD.out.c0; have k1 := HD.out.c1; have k2 := HD.out.c2; clear hb)
    | (gi_at_call 15; (refine (callsIn_wide.2 (cons15_good _ _ _ _ (HP.out.below HD.out.below) HE.out)).mono ?_); rintro e w' ⟨rfl, hb⟩; have HD := Lib.hid (HD.out.step hb); have k0 := HD.out.c0; have k1 := HD.out.c1; have k2 := HD.out.c2; clear hb)
    | (gi_at_call 16; (refine (callsIn_wide.2 (new_inc _ _ _ _ P (HP.out.below HD.out.below) HE.out HC.out)).mono ?_); rintro e wn ⟨rfl, hb⟩; have HD := Lib.hid (HD.out.step hb); have k0 := HD.out.c0; have k1 := HD.out.c1; have k2 := HD.out.c2; clear hb)
    | (gi_at_call 17; (refine (callsIn_wide.2 (new17_inc _ _ _ _ (HP.out.below HD.out.below) HE.out HC.out)).mono ?_); rintro e wn ⟨rfl, hb⟩; have HD := Lib.hid (HD.out.step hb); have k0 := HD.out.c0; have k1 := HD.out.c1; have k2 := HD.out.c2; clear hb))
  iterate 2
    · exact bodyPost_ret (results_tmp (t := 2) rfl _ _ _) rfl ⟨rfl, HD.out.below⟩
  refine wpIn_region_g (by kernel_rfl) (fun i => 54 + i) 18 (tailed1_of (by kernel_rfl)) (fun _ w' => Below wn.heap.size wn w') (fun q v w => (svN.getD q SW.any).holds v w) (fun _ w w' => Below w.heap.size w w') (fun i j _ _ h => by simpa using h) (fun i j v w w' _ _ _ h => SW.keep h) (fun i hi => by show 54 + i < 72; omega) (Below.refl _ _).drew ?_ ?_
  · intro ls q o a w2 hq ho hS hls hsame hpre
    have hsz : a.tmps.size = 72 := hsame.size
    have hcases : q = 0 ∨ q = 1 ∨ q = 2 ∨ q = 3 ∨ q = 4 ∨ q = 5 ∨ q = 6 ∨ q = 7 ∨ q = 8 ∨ q = 9 ∨ q = 10 ∨ q = 11 ∨ q = 12 ∨ q = 13 ∨ q = 14 ∨ q = 15 ∨ q = 16 ∨ q = 17 := by omega
    rcases hcases with rfl | rfl | rfl | rfl | rfl | rfl | rfl | rfl | rfl | rfl | rfl | rfl | rfl | rfl | rfl | rfl | rfl | rfl
    · obtain rfl := Option.some.inj ho; exact wpOpIn_of rfl rfl (wpW_val (r_move (.tmp 8) rfl (hsame.out 8 (fun i _ h => by omega))) ⟨_, rfl, hS, Below.refl _ _, rfl⟩)
    · obtain rfl := Option.some.inj ho; exact wpOpIn_of rfl rfl (wpW_val (r_eqptr (.tmp 54) (.const (.pointer none)) rfl (hpre ⟨0, .data⟩ (by simp) rfl) rfl (by kernel_rfl)) ⟨_, rfl, hS, Below.refl _ _, rfl⟩)
    · obtain rfl := Option.some.inj ho; exact wpOpIn_of rfl rfl (wpW_val (r_move (.tmp 55) rfl (hpre ⟨1, .data⟩ (by simp) rfl)) ⟨_, rfl, hS, Below.refl _ _, rfl⟩)
    · obtain rfl := Option.some.inj ho; exact wpOpIn_no rfl rfl (by rw [yielded_of (g := 2) (t := 56) (b := true) rfl rfl (by omega) (hpre ⟨2, .guard⟩ (by simp) rfl)]; simp) ⟨_, rfl, hS, Below.refl _ _, rfl⟩
    · obtain rfl := Option.some.inj ho; exact wpOpIn_no rfl rfl (by rw [yielded_of (g := 2) (t := 56) (b := true) rfl rfl (by omega) (hpre ⟨2, .guard⟩ (by simp) rfl)]; simp) ⟨_, rfl, hS, Below.refl _ _, rfl⟩
    · obtain rfl := Option.some.inj ho; exact wpOpIn_no rfl rfl (by rw [yielded_of (g := 2) (t := 56) (b := true) rfl rfl (by omega) (hpre ⟨2, .guard⟩ (by simp) rfl)]; simp) ⟨_, rfl, hS, Below.refl _ _, rfl⟩
    · obtain rfl := Option.some.inj ho; exact wpOpIn_no rfl rfl (by rw [yielded_of (g := 2) (t := 56) (b := true) rfl rfl (by omega) (hpre ⟨2, .guard⟩ (by simp) rfl)]; simp) ⟨_, rfl, hS, Below.refl _ _, rfl⟩
    · obtain rfl := Option.some.inj ho; exact wpOpIn_no rfl rfl (by rw [yielded_of (g := 2) (t := 56) (b := true) rfl rfl (by omega) (hpre ⟨2, .guard⟩ (by simp) rfl)]; simp) ⟨_, rfl, hS, Below.refl _ _, rfl⟩
    · obtain rfl := Option.some.inj ho; exact wpOpIn_no rfl rfl (by rw [yielded_of (g := 2) (t := 56) (b := true) rfl rfl (by omega) (hpre ⟨2, .guard⟩ (by simp) rfl)]; simp) ⟨_, rfl, hS, Below.refl _ _, rfl⟩
    · obtain rfl := Option.some.inj ho; exact wpOpIn_no rfl rfl (yielded_undef (g := 8) (t := 62) rfl rfl (by omega) (hpre ⟨8, .guard⟩ (by simp) rfl)) ⟨_, rfl, hS, Below.refl _ _, rfl⟩
    · obtain rfl := Option.some.inj ho; exact wpOpIn_no rfl rfl (yielded_undef (g := 8) (t := 62) rfl rfl (by omega) (hpre ⟨8, .guard⟩ (by simp) rfl)) ⟨_, rfl, hS, Below.refl _ _, rfl⟩
    · obtain rfl := Option.some.inj ho; exact wpOpIn_no rfl rfl (yielded_undef (g := 8) (t := 62) rfl rfl (by omega) (hpre ⟨8, .guard⟩ (by simp) rfl)) ⟨_, rfl, hS, Below.refl _ _, rfl⟩
    · obtain rfl := Option.some.inj ho; exact wpOpIn_no rfl rfl (yielded_undef (g := 8) (t := 62) rfl rfl (by omega) (hpre ⟨8, .guard⟩ (by simp) rfl)) ⟨_, rfl, hS, Below.refl _ _, rfl⟩
    · obtain rfl := Option.some.inj ho; exact wpOpIn_no rfl rfl (by rw [yielded_of (g := 2) (t := 56) (b := true) rfl rfl (by omega) (hpre ⟨2, .guard⟩ (by simp) rfl)]; simp) ⟨_, rfl, hS, Below.refl _ _, rfl⟩
    · obtain rfl := Option.some.inj ho; exact wpOpIn_of rfl rfl (wpW_val (r_pick (.tmp 56) (.const (.bool true)) (.tmp 67) true rfl (hpre ⟨2, .data⟩ (by simp) rfl) rfl) ⟨_, rfl, hS, Below.refl _ _, rfl⟩)
    · obtain rfl := Option.some.inj ho; exact wpOpIn_of rfl rfl (wpW_val (r_move (.tmp 68) rfl (hpre ⟨14, .data⟩ (by simp) rfl)) ⟨_, rfl, hS, Below.refl _ _, rfl⟩)
    · obtain rfl := Option.some.inj ho; exact wpOpIn_yes rfl rfl (yielded_of (g := 15) (t := 69) (b := true) rfl rfl (by omega) (hpre ⟨15, .guard⟩ (by simp) rfl)) (wpW_call (R := fun v w' => v = .bool true ∧ Below w2.heap.size w2 w') (r_call0 _ rfl call13) ((awake_any w2).mono fun e w' ⟨he, hb⟩ => ⟨_, he, rfl, hb⟩) (fun v w'' h => ⟨v, rfl, hS.trans (h.2.mono hS.size), h.2, h.1⟩))
    · obtain rfl := Option.some.inj ho; exact wpOpIn_of rfl rfl (wpW_val (r_pick (.tmp 69) (.tmp 70) (.const (.bool false)) true rfl (hpre ⟨15, .data⟩ (by simp) rfl) (by exact hpre ⟨16, .data⟩ (by simp) rfl)) ⟨_, rfl, hS, Below.refl _ _, rfl⟩)
  · intro ls a w2 hS hlst hsame hsl
    have h71 : a.tmps.getD 71 undef = .bool true := hsl 17 (by omega)
    obtain ⟨vs, hvs, hfr⟩ := hsame.frameV 72 rfl
    refine wpOpIn_of (o := ⟨some 2, .assign (.tmp 71), 4, "law.go:154", _, none⟩) rfl rfl (wpW_val (r_asg (.tmp 71) rfl h71) ?_)
    have HD := Lib.hid (HD.out.step hS)
    clear hsl hsame h71 hS hlst hvs
    subst hfr
    dsimp only
    simp only [Act.put, List.range, List.range.loop, List.map_cons, List.map_nil, List.any_cons, List.any_nil, Nat.reduceAdd, Nat.reduceBEq, Bool.or_false, Bool.or_true, Bool.false_eq_true, if_true, if_false, List.getD_cons_zero, List.getD_cons_succ, List.setIfInBounds_toArray, List.set_cons_succ, List.set_cons_zero]
    gi_wp2_with fail
    exact bodyPost_ret (results_tmp (t := 2) rfl _ _ _) rfl ⟨rfl, HD.out.below⟩
theorem cc_inc (w : World) (v0 v1 v2 : Value) (P : PcD) (hP : PcAt w v0 v1 v2 P) (he : (checkD P).1 = 0) (hc : consB P = false) :
    Calls Try.prog 3 #[.agg #[v0, v1, v2]] w fun e w' => e = .returned (.bool true) ∧ Below w.heap.size w w' := callsIn_wide.1 (cc_inc_in w v0 v1 v2 P hP he hc)

set_option maxRecDepth 100000 in
set_option maxHeartbeats 4000000 in
theorem cc_good (w : World) (v0 v1 v2 : Value) (P : PcD) (hP : PcAt w v0 v1 v2 P) (he : (checkD P).1 = 0) (hc : consB P = true) :
    Calls Try.prog 3 #[.agg #[v0, v1, v2]] w fun e w' => e = .returned (.bool true) ∧ Below w.heap.size w w' := by
  obtain ⟨⟨A0, c0, rfl⟩, ⟨A1, c1, rfl⟩, A2, c2, rfl⟩ := pc_slices hP
  have HP := Lib.hid hP
  have HE := Lib.hid he
  have HC := Lib.hid hc
  clear he hc
  have HD := Lib.hid (show Bd w (.slice A0 P.orders.length c0) (.slice A1 P.powers.length c1) (.slice A2 P.conj.length c2) (w.alloc (.cells #[.slice A0 P.orders.length c0, .slice A1 P.powers.length c1, .slice A2 P.conj.length c2] 26)) from ⟨(Below.refl _ _).alloc (Nat.le_refl _) _, heap_alloc_new w _⟩)
  clear hP
  have tok : True := trivial
  go_enter Try.func3, Try.ntmps3
  go_wp2_with (first
    | (go_at_call 11; (refine (vast_any _ _ _ _ P (HP.out.below HD.out.below)).mono ?_); rintro e w' ⟨⟨b, rfl⟩, hb⟩; have HD := Lib.hid (HD.out.step hb); have k0 := HD.out.c0; have k1 := HD.out.c1; have k2 := HD.out.c2; clear hb)
    | (go_at_call 12; (refine (heavy_any _ _ _ _ P (HP.out.below HD.out.below)).mono ?_); rintro e w' ⟨⟨b2, rfl⟩, hb⟩; have HD := Lib.hid (HD.out.step hb); have k0 := HD.out.c0; have k1 := HD.out.c1; have k2 := HD.out.c2; clear hb)
    | (go_at_call 13; (refine (awake_any _).mono ?_); rintro e w' ⟨rfl, hb⟩; have HD := Lib.hid (HD.out.step hb); clear hb)
    | (go_at_call 14; (refine (cons14_good _ _ _ _ P (HP.out.below HD.out.below) HE.out).mono ?_); rintro e w' ⟨rfl, hb⟩; rw [HC.out]; have HD := Lib.hid (HD.out.step hb); have k0 := HD.out.c0; have k1 := HD.out.c1; have k2 := HD.out.c2; clear hb)
    | (go_at_call 15; (refine (cons15_good _ _ _ _ (HP.out.below HD.out.below) HE.out).mono ?_); rintro e w' ⟨rfl, hb⟩; rw [HC.out]; have HD := Lib.hid (HD.out.step hb); have k0 := HD.out.c0; have k1 := HD.out.c1; have k2 := HD.out.c2; clear hb)
    | (go_at_call 16; (refine (new_good _ _ _ _ P (HP.out.below HD.out.below) HE.out HC.out).mono ?_); rintro e w' ⟨⟨bg, br, rfl, hg, -⟩, hb⟩; have HD := Lib.hid (HD.out.step hb); have k0 := HD.out.c0; have k1 := HD.out.c1; have k2 := HD.out.c2; have HG := Lib.hid hg; clear hb hg)
    | (go_at_call 17; (refine (new17_good _ _ _ _ (HP.out.below HD.out.below) HE.out HC.out).mono ?_); rintro e wn ⟨⟨bh, rfl, hh⟩, hb⟩; have HD := Lib.hid (HD.out.step hb); have k0 := HD.out.c0; have k1 := HD.out.c1; have k2 := HD.out.c2; have HG := Lib.hid (HG.out.below hb); have HH := Lib.hid hh; clear hb hh))
  iterate 2
    · go_ret
      exact ⟨rfl, HD.out.below⟩
  have HS : Hid (∀ w' : World, Below wn.heap.size wn w' → (w'.cell? ⟨w.heap.size, 0, none⟩ = some (.slice A0 P.orders.length c0) ∧ w'.cell? ⟨w.heap.size, 1, none⟩ = some (.slice A1 P.powers.length c1) ∧ w'.cell? ⟨w.heap.size, 2, none⟩ = some (.slice A2 P.conj.length c2))) := Lib.hid (fun w' hb => ⟨(HD.out.step hb).c0, (HD.out.step hb).c1, (HD.out.step hb).c2⟩)
  have HW := Lib.hid ((Below.refl wn.heap.size wn).drew)
  have HD := Lib.hid (HD.out.step HW.out)
  have HG := Lib.hid (HG.out.below HW.out)
  have HH := Lib.hid (HH.out.below HW.out)
  go_region_held3 (fun w' => w'.cell? ⟨w.heap.size, 0, none⟩ = some (.slice A0 P.orders.length c0) ∧ w'.cell? ⟨w.heap.size, 1, none⟩ = some (.slice A1 P.powers.length c1) ∧ w'.cell? ⟨w.heap.size, 2, none⟩ = some (.slice A2 P.conj.length c2)) (first | exact HS.out _ HW.out | exact HS.out _ (Below.refl _ _))
    (first
      | (go_at_call 18; (refine (order_prog HE.out _ bg br HG.out).mono ?_); rintro e w' ⟨rfl, rfl⟩)
      | (go_at_call 19; (refine (order19_any (small_of_check HE.out) _ bh HH.out).mono ?_); rintro e w' ⟨rfl, rfl⟩)
      | (go_at_call 21; (refine (pc_live (valid_of_check HE.out) _ bg br HG.out).mono ?_); rintro e w' ⟨⟨x0, x1, x2, rfl, hpc⟩, hb⟩; obtain ⟨⟨B0, d0, rfl⟩, ⟨B1, d1, rfl⟩, B2, d2, rfl⟩ := pc_slices hpc; have HPC := Lib.hid hpc; have HW := Lib.hid (HW.out.trans (hb.mono HW.out.size)); have HD := Lib.hid (HD.out.step hb); clear hb hpc)
      | (go_at_call 20; (refine (same_any _ _ _ _ _ _ _ P P HPC.out (HP.out.below HD.out.below)).mono ?_); rintro e w' ⟨rfl, hb⟩; rw [sameB_iff.2 rfl]; have HW := Lib.hid (HW.out.trans (hb.mono HW.out.size)); have HD := Lib.hid (HD.out.step hb); clear hb)
      | (go_at_call 13; (refine (awake_any _).mono ?_); rintro e w' ⟨rfl, hb⟩; have HW := Lib.hid (HW.out.trans (hb.mono HW.out.size)); have HD := Lib.hid (HD.out.step hb); clear hb))
  all_goals
    go_wp2_with fail
    go_ret
    exact ⟨rfl, HD.out.below⟩

theorem cc_walk (w : World) (v0 v1 v2 : Value) (P : PcD) (hP : PcAt w v0 v1 v2 P) :
    Calls Try.prog 3 #[.agg #[v0, v1, v2]] w fun e w' => e = .returned (.bool true) ∧ Below w.heap.size w w' := by
  by_cases he : (checkD P).1 = 0
  · cases hc : consB P
    · exact cc_inc w v0 v1 v2 P hP he hc
    · exact cc_good w v0 v1 v2 P hP he hc
  · exact cc_bad w v0 v1 v2 P hP he
end Go.Proofs

