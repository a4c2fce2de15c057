/- Eval of a live group; The contracts of cayleykit.KnownPc at its other numbers; Closed facts of CollectKnown; The walk of CollectNone. -/
import Derived.Test.YtnhoiompdjabbaaB3
import Derived.Test.YtnhoiompdjabbaaA2
import Derived.Test.YtnhoiompdjabbaaA16
import Derived.Test.YtnhoiompdjabbaaA18
namespace Go.Proofs
open Go.RowKit Go.Proofs.Pc
attribute [local simp, local go_sem] wide_fn wide_depth

def dmEv : Nat → Nat := fun i => [37, 38, 39, 40, 41, 42, 43, 44, 45, 46].getD i 0
theorem unit_R1 {P : PcD} (hv : Valid P) {w : World} {i : Nat} (hi : i < P.n) :
    Calls Try.prog 81 #[.int .i64 i, .int .i64 1] w fun e w' => ∃ v, e = .returned v ∧ (v = .agg (vec (uP P i 1)).toArray ∧ Below w.heap.size w w') :=
  (unit_any w i 1 (by have := hv.n12; omega)).mono fun _e _w' ⟨he, hb⟩ => ⟨_, he, by rw [vec_unit hi hv.n12], hb⟩
theorem by_R {P : PcD} (hv : Valid P) {w : World} {bc br : Nat} {x y : List Int} (hc : CollAt w bc br x) (hr : RulesAt w br P) (hne : bc ≠ br) (hx : NV P x) (hy : NV P y) :
    Calls Try.prog 80 #[.pointer (some ⟨bc, 0, none⟩), .agg (vec y).toArray] w fun e w' => ∃ v, e = .returned v ∧ (CollAt w' bc br (mulP P x y) ∧ w.grownBy w' (some bc)) :=
  (by_ok hv P.n w bc br x y hc hr hne hx (NV.small hv hy)).mono fun _e _w' ⟨he, h1, h2⟩ => ⟨_, he, h1, h2⟩
theorem times_c {P : PcD} (hv : Valid P) {w : World} {bc br : Nat} {x : List Int} {i : Nat} (hc : CollAt w bc br x) (hr : RulesAt w br P) (hne : bc ≠ br) (hx : NV P x) (hi : i < P.n) :
    Calls Try.prog 79 #[.pointer (some ⟨bc, 0, none⟩), .int .i64 i] w (Turned w bc br (T P i x)) := times_ok hv P.n w bc br x i hc hr hne hx hi (by omega)
theorem call80 (args : Array Value) (w : World) : (callFunc 80 args).run Try.prog w = .ok (.enter 80 args) w := enters_of Try.func80 (by kernel_rfl) rfl args w
theorem build113z (br : Nat) (w : World) : (Instr.build 113 #[(0, .pointer (some ⟨br, 0, none⟩))]).run Try.prog w = .ok (.agg (Value.pointer (some ⟨br, 0, none⟩) :: vec []).toArray) w := by kernel_rfl
theorem r_b113 {o : Oper} {a : Act} {w : World} (x : Operand) (br : Nat) (ho : o.op = .build 113 #[(0, x)]) (hx : a.eval x = .pointer (some ⟨br, 0, none⟩)) : (execOp a.eval o).run Try.prog w = .ok (.value (.agg (Value.pointer (some ⟨br, 0, none⟩) :: vec []).toArray)) w := by
  have hb := build113z br w
  unfold execOp
  simp only [ho, List.map_toArray, List.map_cons, List.map_nil, hx, Sem.run_bind, hb, Result.andThen_ok]
  rfl

set_option maxRecDepth 100000 in
set_option maxHeartbeats 2000000 in
theorem eval_live_in {P : PcD} (hv : Valid P) (w : World) (bg br : Nat) (hg : Live w bg br) (hr : RulesAt w br P) (s1 : Value) (ws : List Int) (h1 : IntsAt w s1 ws) (hl : ws.length ≤ 4000) (hgood : ∀ k, k < ws.length → goodL P (ws.getD k 0)) :
    CallsIn Fence.wide 3 Try.prog 36 #[.pointer (some ⟨bg, 0, none⟩), s1] w (ListRet (evW P ws) w) := by
  obtain ⟨A, ca, rfl, ha1, ha2, ha⟩ := h1.open_
  have h12 := hv.n12
  have hbr := hr.lt
  have dl : decide ((4000 : Int) < (ws.length : Int)) = false := decide_eq_false (by omega)
  have hge := hg
  unfold Live at hge
  have HR := Lib.hid hr
  have HG := Lib.hid hg
  have HA := Lib.hid ha
  have HGOOD := Lib.hid hgood
  have HB0 : Hid (Below w.heap.size w (w.alloc (.cells (Value.pointer (some ⟨br, 0, none⟩) :: vec []).toArray 113))) := Lib.hid ((Below.refl _ _).alloc (Nat.le_refl _) _)
  have HC0 : Hid (CollAt (w.alloc (.cells (Value.pointer (some ⟨br, 0, none⟩) :: vec []).toArray 113)) w.heap.size br (zV P)) := Lib.hid (by unfold CollAt; rw [vec_zV]; exact heap_alloc_new _ _)
  have HZ := Lib.hid (NV_z hv)
  clear hr hg ha hgood h1
  gi_enter Try.func36, Try.ntmps36
  gi_wp2_with (first
    | (with_reducible refine (callsIn_wide.2 (valid_live' w bg br HG.out)).mono ?_; rintro e w' ⟨rfl, rfl⟩)
    | ((with_reducible refine wpListIn_sel 22 ?_); refine wpListIn_val rfl (r_b113 (.tmp 21) br rfl rfl) ?_))
  have hbcn : w.heap.size ≠ br := by omega
  generalize hW : w.alloc (.cells (Value.pointer (some ⟨br, 0, none⟩) :: vec []).toArray 113) = W at *
  clear hW hge
  gi_loopw [26] (fun s wr => ∃ k : Nat, k ≤ ws.length ∧ s = .int .i64 k ∧ CollAt wr w.heap.size br (evTo P ws k) ∧ Below w.heap.size w wr) (fun s _ => ws.length - (intOf s).toNat)
  case atStart => exact ⟨0, Nat.zero_le _, rfl, HC0.out, HB0.out⟩
  case round =>
    obtain ⟨k, hk, rfl, hC, hB⟩ := hrel
    have HC := Lib.hid hC
    have HB := Lib.hid hB
    have HNV := Lib.hid (evTo_NV hv (ws := ws) k)
    have hge1 : wr.cell? ⟨bg, 0, none⟩ = some (.pointer (some ⟨br, 0, none⟩)) := (KC.of_below hB).cell HG.out
    have hrr := (KC.of_below hB).rules HR.out
    have HRR := Lib.hid hrr
    have hrn := hrr.n
    have hcs := hC.lt
    have HFW : Hid (∀ {w : World}, Below wr.heap.size wr w → RulesAt w br P ∧ w.cell? ⟨bg, 0, none⟩ = some (.pointer (some ⟨br, 0, none⟩))) := Lib.hid (fun h => ⟨(KC.of_below h).rules hrr, (KC.of_below h).cell hge1⟩)
    by_cases hlt : k < ws.length
    · obtain ⟨b, off, rfl, hcb⟩ := HA.out (by omega)
      have cx := (KC.of_below hB).cell (hcb k hlt)
      have hgk := HGOOD.out k hlt
      have HS := Lib.hid (evTo_succ P ws k)
      have hk0 : (0 : Int) ≤ (k : Int) := Int.natCast_nonneg _
      have hk1 : (k : Int) < (ws.length : Int) := by omega
      unfold goodL at hgk
      generalize ws.getD k 0 = x at *
      generalize evTo P ws k = v at *
      obtain ⟨g1, g2, g3⟩ := hgk
      clear hC hB hrr hcb
      have e1 : (x == 0) = false := beq_eq_false_iff_ne.2 g1
      have e2 : decide (x < -(P.n : Int)) = false := decide_eq_false (by omega)
      have e3 : decide ((P.n : Int) < x) = false := decide_eq_false (by omega)
      rcases Int.lt_or_gt_of_ne g1 with hx | hx
      · have e4 : decide (0 < x) = false := decide_eq_false (by omega)
        obtain ⟨i, hi⟩ : ∃ i : Nat, -x - 1 = (i : Int) := ⟨(-x - 1).toNat, by omega⟩
        obtain rfl : x = -(i : Int) - 1 := by omega
        have hin : i < P.n := by omega
        have hni : -(-(i : Int) - 1) - 1 = (i : Int) := by omega
        have HNI := Lib.hid hni
        have HSX : Hid (stepW P (-(i : Int) - 1) v = mulP P v (invP P (uP P i 1))) := Lib.hid (stepW_neg P i v)
        clear hi hni g1 g2 g3
        gi_wp2_with fail
        have hni := HNI.out
        have hfw : ∀ {w : World}, Below wr.heap.size wr w → RulesAt w br P ∧ w.cell? ⟨bg, 0, none⟩ = some (.pointer (some ⟨br, 0, none⟩)) := HFW.out
        refine wpIn_region_one (by kernel_rfl) dmEv 10 (tailed1_of (by kernel_rfl)) (fun w' => Below wr.heap.size wr w') (fun q v wz => ((([SW2.s (SW.c (.pointer (some ⟨w.heap.size, 0, none⟩))), SW2.s (SW.c (.pointer (some ⟨bg, 0, none⟩))), SW2.s (SW.c (.pointer (some ⟨bg, 0, none⟩))), SW2.s (SW.c (.pointer (some ⟨bg, 0, none⟩))), SW2.s (SW.c (.pointer (some ⟨br, 0, none⟩))), SW2.s (SW.c (.int .i64 (-(i : Int) - 1))), SW2.s (SW.c (.int .i64 (-(-(i : Int) - 1)))), SW2.s (SW.c (.int .i64 (i : Int))), SW2.s (SW.c (.agg (vec (uP P i 1)).toArray)), SW2.s (SW.c (.agg (vec (invP P (uP P i 1))).toArray))]) : List SW2).getD q SW2.any).holds P v wz) (fun w w' => Below w.heap.size w w') (inj_of (by decide)) (fun q v w w' h => SW2.keep h) (lt_of (n := 79) (by decide)) (Below.refl _ _).drew ?_ ?_
        · intro q o a w9 hq ho hS hsame hpre
          have hcases : q = 0 ∨ q = 1 ∨ q = 2 ∨ q = 3 ∨ q = 4 ∨ q = 5 ∨ q = 6 ∨ q = 7 ∨ q = 8 ∨ q = 9 := by omega
          rcases hcases with rfl | rfl | rfl | rfl | rfl | rfl | rfl | rfl | rfl | rfl
          · obtain rfl := Option.some.inj ho; exact ⟨rfl, rfl, (by exact wpW_val (r_move (.tmp 6) rfl (hsame.out 6 (by decide))) ⟨_, rfl, hS, Below.refl _ _, rfl⟩)⟩
          · obtain rfl := Option.some.inj ho; exact ⟨rfl, rfl, (by exact wpW_val (r_move (.tmp 0) rfl (hsame.out 0 (by decide))) ⟨_, rfl, hS, Below.refl _ _, rfl⟩)⟩
          · obtain rfl := Option.some.inj ho; exact ⟨rfl, rfl, (by exact wpW_val (r_nil (.tmp 38) _ rfl (hpre ⟨1, .data⟩ (by simp) rfl)) ⟨_, rfl, hS, Below.refl _ _, rfl⟩)⟩
          · obtain rfl := Option.some.inj ho; exact ⟨rfl, rfl, (by exact wpW_val (r_fld (.tmp 39) _ rfl (hpre ⟨2, .data⟩ (by simp) rfl) (fld64_0 _ _)) ⟨_, rfl, hS, Below.refl _ _, rfl⟩)⟩
          · obtain rfl := Option.some.inj ho; exact ⟨rfl, rfl, (by exact wpW_val (r_load62 (.tmp 40) ⟨bg, 0, none⟩ rfl (hpre ⟨3, .data⟩ (by simp) rfl) (hfw hS).2) ⟨_, rfl, hS, Below.refl _ _, rfl⟩)⟩
          · obtain rfl := Option.some.inj ho; exact ⟨rfl, rfl, (by exact wpW_val (r_move (.tmp 8) rfl (hsame.out 8 (by decide))) ⟨_, rfl, hS, Below.refl _ _, rfl⟩)⟩
          · obtain rfl := Option.some.inj ho; exact ⟨rfl, rfl, (by exact wpW_val (r_neg (.tmp 42) (-(i : Int) - 1) rfl (hpre ⟨5, .data⟩ (by simp) rfl) (by omega) (by omega)) ⟨_, rfl, hS, Below.refl _ _, rfl⟩)⟩
          · obtain rfl := Option.some.inj ho; exact ⟨rfl, rfl, (by exact wpW_val (r_subc (.tmp 43) (-(-(i : Int) - 1)) 1 rfl (hpre ⟨6, .data⟩ (by simp) rfl) (by omega) (by omega)) ⟨_, rfl, hS, Below.refl _ _, by show (Value.int .i64 _ : Value) = _; rw [hni]⟩)⟩
          · obtain rfl := Option.some.inj ho; exact ⟨rfl, rfl, (by exact wpW_call (r_call2 (.tmp 44) (.const (.int .i64 1)) _ _ _ rfl (hpre ⟨7, .data⟩ (by simp) rfl) rfl call81) (unit_R1 hv hin) (fun v w'' h => ⟨v, rfl, hS.trans (h.2.mono hS.size), h.2, h.1⟩))⟩
          · obtain rfl := Option.some.inj ho; exact ⟨rfl, rfl, (by exact wpW_call (r_call2 (.tmp 41) (.tmp 45) _ _ _ rfl (hpre ⟨4, .data⟩ (by simp) rfl) (hpre ⟨8, .data⟩ (by simp) rfl) call73) (inverse_R hv (hfw hS).1 (uP_NV hv (by omega) (fun h => by have := hv.ord2 i h; omega))) (fun v w'' h => ⟨v, rfl, hS.trans (h.2.mono hS.size), h.2, h.1⟩))⟩
        intro a w2 hS hsame hsl
        have e0 := hsl 0 (by omega)
        have e9 := hsl 9 (by omega)
        obtain ⟨vs, hvs, hfr⟩ := hsame.frameV 79 rfl
        refine wpOpIn_of (o := ⟨some 47, .call ⟨.value (.func 80), #[.tmp 37, .tmp 46], #[111, 82]⟩, _, _, _, none⟩) rfl rfl (wpW_call (r_call2 (.tmp 37) (.tmp 46) _ _ _ rfl e0 e9 call80) (by_R hv (HC.out.below hS) (hfw hS).1 hbcn HNV.out (invP_NV hv (uP_NV hv (by omega) (fun h => by have := hv.ord2 i h; omega)))) ?_)
        rintro v w3 ⟨hc3, hg3⟩
        have HC3 := Lib.hid hc3
        have HB3 := Lib.hid ((HB.out.trans (hS.mono HB.out.size)).grown hg3 (Nat.le_trans HB.out.size hS.size) (fun k e => by cases e; omega))
        clear hsl hsame hvs e0 e9 hS hc3 hg3
        subst hfr
        dsimp only
        simp only [Act.put, List.range, List.range.loop, List.map_cons, List.map_nil, List.any_cons, List.any_nil, dmEv, List.getD_cons_zero, List.getD_cons_succ, Nat.reduceBEq, Bool.or_false, Bool.or_true, Bool.false_eq_true, if_true, if_false, List.setIfInBounds_toArray, List.set_cons_succ, List.set_cons_zero]
        clear hfw
        gi_wp2_with fail
        go_roundw
        case rel => exact ⟨k + 1, by omega, by go_num, by rw [HS.out, HSX.out]; exact HC3.out, HB3.out⟩
        case measure => simp [intOf]; omega
      · have e4 : decide (0 < x) = true := decide_eq_true (by omega)
        obtain ⟨i, hi⟩ : ∃ i : Nat, x - 1 = (i : Int) := ⟨(x - 1).toNat, by omega⟩
        obtain rfl : x = (i : Int) + 1 := by omega
        have hin : i < P.n := by omega
        have hni : (i : Int) + 1 - 1 = (i : Int) := by omega
        have HNI := Lib.hid hni
        have HSX : Hid (stepW P ((i : Int) + 1) v = T P i v) := Lib.hid (stepW_pos P i v hin)
        clear hi hni g1 g2 g3
        have HTC := Lib.hid (times_c hv HC.out HRR.out hbcn HNV.out hin)
        gi_wp2_with ((with_reducible refine (callsIn_wide.2 HTC.out).mono ?_); rintro e w5 ⟨rfl, hc5, hg5⟩)
        go_roundw
        case rel => exact ⟨k + 1, by omega, by go_num, by rw [HS.out, HSX.out]; exact hc5, HB.out.grown hg5 HB.out.size (fun k e => by cases e; omega)⟩
        case measure => simp [intOf]; omega
    · obtain rfl : k = ws.length := by omega
      have HE : Hid (evW P ws = evTo P ws ws.length) := Lib.hid rfl
      clear hC hB hrr
      gi_wp2_with fail
      have hfw : ∀ {w : World}, Below wr.heap.size wr w → RulesAt w br P ∧ w.cell? ⟨bg, 0, none⟩ = some (.pointer (some ⟨br, 0, none⟩)) := HFW.out
      rw [← HE.out] at HC HNV
      refine wpIn_region_tail (by kernel_rfl) 70 9 (tailed_of (by kernel_rfl)) (fun w' => Below wr.heap.size wr w') (fun q v wz => ((([SW2.s (SW.c (.pointer (some ⟨bg, 0, none⟩))), SW2.s (SW.c (.pointer (some ⟨bg, 0, none⟩))), SW2.s (SW.c (.pointer (some ⟨bg, 0, none⟩))), SW2.s (SW.c (.pointer (some ⟨br, 0, none⟩))), SW2.s (SW.c (.pointer (some ⟨w.heap.size, 0, none⟩))), SW2.s (SW.c (.pointer (some ⟨w.heap.size, 0, none⟩))), SW2.s (SW.c (.pointer (some ⟨w.heap.size, 1, none⟩))), SW2.s (SW.c (.agg (vec (evW P ws)).toArray)), SW2.s (SW.il (evW P ws))]) : List SW2).getD q SW2.any).holds P v wz) (fun w w' => Below w.heap.size w w') (fun q v w w' h => SW2.keep h) (Nat.le_of_ble_eq_true rfl) (Below.refl _ _).drew ?_ ?_
      · intro q o a w9 hq ho hS hsame hpre
        have hcases : q = 0 ∨ q = 1 ∨ q = 2 ∨ q = 3 ∨ q = 4 ∨ q = 5 ∨ q = 6 ∨ q = 7 ∨ q = 8 := by omega
        rcases hcases with rfl | rfl | rfl | rfl | rfl | rfl | rfl | rfl | rfl
        · obtain rfl := Option.some.inj ho; exact ⟨rfl, rfl, (by exact wpW_val (r_move (.tmp 0) rfl (hsame.out 0 (.inl (by decide)))) ⟨_, rfl, hS, Below.refl _ _, rfl⟩)⟩
        · obtain rfl := Option.some.inj ho; exact ⟨rfl, rfl, (by exact wpW_val (r_nil (.tmp 70) _ rfl (hpre ⟨0, .data⟩ (by simp) rfl)) ⟨_, rfl, hS, Below.refl _ _, rfl⟩)⟩
        · obtain rfl := Option.some.inj ho; exact ⟨rfl, rfl, (by exact wpW_val (r_fld (.tmp 71) _ rfl (hpre ⟨1, .data⟩ (by simp) rfl) (fld64_0 _ _)) ⟨_, rfl, hS, Below.refl _ _, rfl⟩)⟩
        · obtain rfl := Option.some.inj ho; exact ⟨rfl, rfl, (by exact wpW_val (r_load62 (.tmp 72) ⟨bg, 0, none⟩ rfl (hpre ⟨2, .data⟩ (by simp) rfl) (hfw hS).2) ⟨_, rfl, hS, Below.refl _ _, rfl⟩)⟩
        · obtain rfl := Option.some.inj ho; exact ⟨rfl, rfl, (by exact wpW_val (r_move (.tmp 6) rfl (hsame.out 6 (.inl (by decide)))) ⟨_, rfl, hS, Below.refl _ _, rfl⟩)⟩
        · obtain rfl := Option.some.inj ho; exact ⟨rfl, rfl, (by exact wpW_val (r_nil (.tmp 74) _ rfl (hpre ⟨4, .data⟩ (by simp) rfl)) ⟨_, rfl, hS, Below.refl _ _, rfl⟩)⟩
        · obtain rfl := Option.some.inj ho; exact ⟨rfl, rfl, (by exact wpW_val (r_fld (.tmp 75) _ rfl (hpre ⟨5, .data⟩ (by simp) rfl) (fld113_1 _ _ _)) ⟨_, rfl, hS, Below.refl _ _, rfl⟩)⟩
        · obtain rfl := Option.some.inj ho; exact ⟨rfl, rfl, (by exact wpW_val (r_load82 (.tmp 76) _ _ (evW P ws) rfl (hpre ⟨6, .data⟩ (by simp) rfl) ((KC.of_below hS).range HC.out.range)) ⟨_, rfl, hS, Below.refl _ _, rfl⟩)⟩
        · obtain rfl := Option.some.inj ho; exact ⟨rfl, rfl, (by exact wpW_call (r_call2 (.tmp 73) (.tmp 77) _ _ _ rfl (hpre ⟨3, .data⟩ (by simp) rfl) (hpre ⟨7, .data⟩ (by simp) rfl) call70) (list_R hv (hfw hS).1 HNV.out) (fun v w'' h => ⟨v, rfl, hS.trans (h.2.mono hS.size), h.2, h.1⟩))⟩
      · intro a w' hS hsame hsl
        have hu := hsl 8 (by omega)
        have hfr := hsame.frame (Nat.le_of_ble_eq_true rfl)
        refine wpOpIn_of (o := ⟨some 4, .assign (.tmp 78), 22, _, _, none⟩) rfl rfl (wpW_val (r_asg (.tmp 78) rfl rfl) (wpOpIn_of (o := ⟨some 5, .assign (.const (.int .i64 0)), 29, _, _, none⟩) rfl rfl (wpW_val (r_asg (.const (.int .i64 0)) rfl rfl) ?_)))
        have e41 : a.eval (.tmp 78) = a.tmps.getD (70 + 8) undef := rfl
        have ec : ∀ a : Act, a.eval (.const (.int .i64 0)) = .int .i64 0 := fun _ => rfl
        rw [e41, ec]
        generalize a.tmps.getD (70 + 8) undef = u at *
        have HU : IntsAt w' u (evW P ws) := hu
        clear hu hsl hsame e41 ec
        generalize (fun i => a.tmps.getD (70 + i) undef) = vs at hfr
        subst hfr
        dsimp only
        simp only [Act.put, List.take_succ_cons, List.take_zero, List.drop_succ_cons, List.drop_zero, List.map_cons, List.map_nil, List.range, List.range.loop, List.cons_append, List.nil_append, List.append_nil, List.setIfInBounds_toArray, List.set_cons_succ, List.set_cons_zero, Nat.reduceAdd]
        have hfin : ListRet (evW P ws) w (.returned (.tuple #[u, .int .i64 0])) w' := ⟨⟨u, rfl, HU⟩, HB.out.trans (hS.mono HB.out.size)⟩
        clear hfw HU hS
        gi_wp2_with fail
        exact bodyPost_ret (results_tmp2 (t := 4) (u := 5) rfl _ _ _) rfl hfin
theorem eval_live {P : PcD} (hv : Valid P) (w : World) (bg br : Nat) (hg : Live w bg br) (hr : RulesAt w br P) (s1 : Value) (ws : List Int) (h1 : IntsAt w s1 ws) (hl : ws.length ≤ 4000) (hgood : ∀ k, k < ws.length → goodL P (ws.getD k 0)) :
    Calls Try.prog 36 #[.pointer (some ⟨bg, 0, none⟩), s1] w (ListRet (evW P ws) w) := callsIn_wide.1 (eval_live_in hv w bg br hg hr s1 ws h1 hl hgood)
end Go.Proofs
namespace Go.Proofs
open Go.RowKit Go.Proofs.Pc
theorem intsAt_nil' {w : World} : IntsAt w (.slice none 0 0) [] := ⟨⟨none, 0, 0, rfl, rfl, Nat.le_refl _, by simp, fun h => absurd h (by simp)⟩, fun x hx => by cases hx⟩

set_option maxRecDepth 100000 in
set_option maxHeartbeats 1000000 in
theorem known_1 (w : World) (x : Int) (hx : -9223372036854775808 ≤ x ∧ x ≤ 9223372036854775807) (ht : x % 12 = 1) : Calls Try.prog 28 #[.int .i64 x] w (KnownPost w (knownD 1)) := by
  have HT := Lib.hid ht
  clear ht
  go_enter Try.func28, Try.ntmps28
  go_wp2_with (go_at_call 46; (refine (turn_any _ x 12 (by omega) (by omega) hx).mono ?_); rintro e w' ⟨rfl, rfl⟩; rw [HT.out])
  refine ret28 w [_, _, _, _, _, _, _, _, _] _ _ _ _ _ rfl rfl rfl (fun lk => ?_)
  exact ⟨ints_lit _ (lk 1 _ rfl) rfl (by decide) rfl, tab_lit (lk 4 _ rfl) rfl (by decide) ⟨ints_lit _ (lk 2 _ rfl) rfl (by decide) rfl, ints_lit _ (lk 3 _ rfl) rfl (by decide) rfl, trivial⟩, tab3_lit (lk 8 _ rfl) rfl (by decide) ⟨tab_lit (vs := []) (lk 5 _ rfl) rfl (by decide) trivial, tab_lit (lk 7 _ rfl) rfl (by decide) ⟨ints_lit _ (lk 6 _ rfl) rfl (by decide) rfl, trivial⟩, trivial⟩⟩

set_option maxRecDepth 100000 in
set_option maxHeartbeats 1000000 in
theorem known_2 (w : World) (x : Int) (hx : -9223372036854775808 ≤ x ∧ x ≤ 9223372036854775807) (ht : x % 12 = 2) : Calls Try.prog 28 #[.int .i64 x] w (KnownPost w (knownD 2)) := by
  have HT := Lib.hid ht
  clear ht
  go_enter Try.func28, Try.ntmps28
  go_wp2_with (go_at_call 46; (refine (turn_any _ x 12 (by omega) (by omega) hx).mono ?_); rintro e w' ⟨rfl, rfl⟩; rw [HT.out])
  refine ret28 w [_, _, _, _, _, _, _, _, _] _ _ _ _ _ rfl rfl rfl (fun lk => ?_)
  exact ⟨ints_lit _ (lk 1 _ rfl) rfl (by decide) rfl, tab_lit (lk 4 _ rfl) rfl (by decide) ⟨ints_lit _ (lk 2 _ rfl) rfl (by decide) rfl, ints_lit _ (lk 3 _ rfl) rfl (by decide) rfl, trivial⟩, tab3_lit (lk 8 _ rfl) rfl (by decide) ⟨tab_lit (vs := []) (lk 5 _ rfl) rfl (by decide) trivial, tab_lit (lk 7 _ rfl) rfl (by decide) ⟨ints_lit _ (lk 6 _ rfl) rfl (by decide) rfl, trivial⟩, trivial⟩⟩

set_option maxRecDepth 100000 in
set_option maxHeartbeats 1000000 in
theorem known_3 (w : World) (x : Int) (hx : -9223372036854775808 ≤ x ∧ x ≤ 9223372036854775807) (ht : x % 12 = 3) : Calls Try.prog 28 #[.int .i64 x] w (KnownPost w (knownD 3)) := by
  have HT := Lib.hid ht
  clear ht
  go_enter Try.func28, Try.ntmps28
  go_wp2_with (go_at_call 46; (refine (turn_any _ x 12 (by omega) (by omega) hx).mono ?_); rintro e w' ⟨rfl, rfl⟩; rw [HT.out])
  refine ret28 w [_, _, _, _, _, _, _, _, _, _, _, _, _] _ _ _ _ _ rfl rfl rfl (fun lk => ?_)
  exact ⟨ints_lit _ (lk 1 _ rfl) rfl (by decide) rfl, tab_lit (lk 5 _ rfl) rfl (by decide) ⟨ints_lit _ (lk 2 _ rfl) rfl (by decide) rfl, ints_lit _ (lk 3 _ rfl) rfl (by decide) rfl, ints_lit _ (lk 4 _ rfl) rfl (by decide) rfl, trivial⟩, tab3_lit (lk 12 _ rfl) rfl (by decide) ⟨tab_lit (vs := []) (lk 6 _ rfl) rfl (by decide) trivial, tab_lit (lk 8 _ rfl) rfl (by decide) ⟨ints_lit _ (lk 7 _ rfl) rfl (by decide) rfl, trivial⟩, tab_lit (lk 11 _ rfl) rfl (by decide) ⟨ints_lit _ (lk 9 _ rfl) rfl (by decide) rfl, ints_lit _ (lk 10 _ rfl) rfl (by decide) rfl, trivial⟩, trivial⟩⟩

set_option maxRecDepth 100000 in
set_option maxHeartbeats 1000000 in
theorem known_4 (w : World) (x : Int) (hx : -9223372036854775808 ≤ x ∧ x ≤ 9223372036854775807) (ht : x % 12 = 4) : Calls Try.prog 28 #[.int .i64 x] w (KnownPost w (knownD 4)) := by
  have HT := Lib.hid ht
  clear ht
  go_enter Try.func28, Try.ntmps28
  go_wp2_with (go_at_call 46; (refine (turn_any _ x 12 (by omega) (by omega) hx).mono ?_); rintro e w' ⟨rfl, rfl⟩; rw [HT.out])
  refine ret28 w [_, _, _, _, _, _, _, _, _, _, _, _, _] _ _ _ _ _ rfl rfl rfl (fun lk => ?_)
  exact ⟨ints_lit _ (lk 1 _ rfl) rfl (by decide) rfl, tab_lit (lk 5 _ rfl) rfl (by decide) ⟨ints_lit _ (lk 2 _ rfl) rfl (by decide) rfl, ints_lit _ (lk 3 _ rfl) rfl (by decide) rfl, ints_lit _ (lk 4 _ rfl) rfl (by decide) rfl, trivial⟩, tab3_lit (lk 12 _ rfl) rfl (by decide) ⟨tab_lit (vs := []) (lk 6 _ rfl) rfl (by decide) trivial, tab_lit (lk 8 _ rfl) rfl (by decide) ⟨ints_lit _ (lk 7 _ rfl) rfl (by decide) rfl, trivial⟩, tab_lit (lk 11 _ rfl) rfl (by decide) ⟨ints_lit _ (lk 9 _ rfl) rfl (by decide) rfl, ints_lit _ (lk 10 _ rfl) rfl (by decide) rfl, trivial⟩, trivial⟩⟩

set_option maxRecDepth 100000 in
set_option maxHeartbeats 1000000 in
theorem known_5 (w : World) (x : Int) (hx : -9223372036854775808 ≤ x ∧ x ≤ 9223372036854775807) (ht : x % 12 = 5) : Calls Try.prog 28 #[.int .i64 x] w (KnownPost w (knownD 5)) := by
  have HT := Lib.hid ht
  clear ht
  go_enter Try.func28, Try.ntmps28
  go_wp2_with (go_at_call 46; (refine (turn_any _ x 12 (by omega) (by omega) hx).mono ?_); rintro e w' ⟨rfl, rfl⟩; rw [HT.out])
  refine ret28 w [_, _, _, _, _, _, _, _, _, _, _, _, _] _ _ _ _ _ rfl rfl rfl (fun lk => ?_)
  exact ⟨ints_lit _ (lk 1 _ rfl) rfl (by decide) rfl, tab_lit (lk 5 _ rfl) rfl (by decide) ⟨ints_lit _ (lk 2 _ rfl) rfl (by decide) rfl, ints_lit _ (lk 3 _ rfl) rfl (by decide) rfl, ints_lit _ (lk 4 _ rfl) rfl (by decide) rfl, trivial⟩, tab3_lit (lk 12 _ rfl) rfl (by decide) ⟨tab_lit (vs := []) (lk 6 _ rfl) rfl (by decide) trivial, tab_lit (lk 8 _ rfl) rfl (by decide) ⟨ints_lit _ (lk 7 _ rfl) rfl (by decide) rfl, trivial⟩, tab_lit (lk 11 _ rfl) rfl (by decide) ⟨ints_lit _ (lk 9 _ rfl) rfl (by decide) rfl, ints_lit _ (lk 10 _ rfl) rfl (by decide) rfl, trivial⟩, trivial⟩⟩

set_option maxRecDepth 100000 in
set_option maxHeartbeats 1000000 in
theorem known_6 (w : World) (x : Int) (hx : -9223372036854775808 ≤ x ∧ x ≤ 9223372036854775807) (ht : x % 12 = 6) : Calls Try.prog 28 #[.int .i64 x] w (KnownPost w (knownD 6)) := by
  have HT := Lib.hid ht
  clear ht
  go_enter Try.func28, Try.ntmps28
  go_wp2_with (go_at_call 46; (refine (turn_any _ x 12 (by omega) (by omega) hx).mono ?_); rintro e w' ⟨rfl, rfl⟩; rw [HT.out])
  refine ret28 w [_, _, _, _, _, _, _, _, _] _ _ _ _ _ rfl rfl rfl (fun lk => ?_)
  exact ⟨ints_lit _ (lk 1 _ rfl) rfl (by decide) rfl, tab_lit (lk 4 _ rfl) rfl (by decide) ⟨ints_lit _ (lk 2 _ rfl) rfl (by decide) rfl, ints_lit _ (lk 3 _ rfl) rfl (by decide) rfl, trivial⟩, tab3_lit (lk 8 _ rfl) rfl (by decide) ⟨tab_lit (vs := []) (lk 5 _ rfl) rfl (by decide) trivial, tab_lit (lk 7 _ rfl) rfl (by decide) ⟨ints_lit _ (lk 6 _ rfl) rfl (by decide) rfl, trivial⟩, trivial⟩⟩

set_option maxRecDepth 100000 in
set_option maxHeartbeats 1000000 in
theorem known_7 (w : World) (x : Int) (hx : -9223372036854775808 ≤ x ∧ x ≤ 9223372036854775807) (ht : x % 12 = 7) : Calls Try.prog 28 #[.int .i64 x] w (KnownPost w (knownD 7)) := by
  have HT := Lib.hid ht
  clear ht
  go_enter Try.func28, Try.ntmps28
  go_wp2_with (go_at_call 46; (refine (turn_any _ x 12 (by omega) (by omega) hx).mono ?_); rintro e w' ⟨rfl, rfl⟩; rw [HT.out])
  refine ret28 w [_, _, _, _, _, _, _, _, _, _, _, _, _] _ _ _ _ _ rfl rfl rfl (fun lk => ?_)
  exact ⟨ints_lit _ (lk 1 _ rfl) rfl (by decide) rfl, tab_lit (lk 5 _ rfl) rfl (by decide) ⟨ints_lit _ (lk 2 _ rfl) rfl (by decide) rfl, ints_lit _ (lk 3 _ rfl) rfl (by decide) rfl, ints_lit _ (lk 4 _ rfl) rfl (by decide) rfl, trivial⟩, tab3_lit (lk 12 _ rfl) rfl (by decide) ⟨tab_lit (vs := []) (lk 6 _ rfl) rfl (by decide) trivial, tab_lit (lk 8 _ rfl) rfl (by decide) ⟨ints_lit _ (lk 7 _ rfl) rfl (by decide) rfl, trivial⟩, tab_lit (lk 11 _ rfl) rfl (by decide) ⟨ints_lit _ (lk 9 _ rfl) rfl (by decide) rfl, ints_lit _ (lk 10 _ rfl) rfl (by decide) rfl, trivial⟩, trivial⟩⟩

set_option maxRecDepth 100000 in
set_option maxHeartbeats 1000000 in
theorem known_8 (w : World) (x : Int) (hx : -9223372036854775808 ≤ x ∧ x ≤ 9223372036854775807) (ht : x % 12 = 8) : Calls Try.prog 28 #[.int .i64 x] w (KnownPost w (knownD 8)) := by
  have HT := Lib.hid ht
  clear ht
  go_enter Try.func28, Try.ntmps28
  go_wp2_with (go_at_call 46; (refine (turn_any _ x 12 (by omega) (by omega) hx).mono ?_); rintro e w' ⟨rfl, rfl⟩; rw [HT.out])
  refine ret28 w [_, _, _, _, _, _, _, _, _, _, _, _, _, _, _, _, _, _] _ _ _ _ _ rfl rfl rfl (fun lk => ?_)
  exact ⟨ints_lit _ (lk 1 _ rfl) rfl (by decide) rfl, tab_lit (lk 6 _ rfl) rfl (by decide) ⟨ints_lit _ (lk 2 _ rfl) rfl (by decide) rfl, ints_lit _ (lk 3 _ rfl) rfl (by decide) rfl, ints_lit _ (lk 4 _ rfl) rfl (by decide) rfl, ints_lit _ (lk 5 _ rfl) rfl (by decide) rfl, trivial⟩, tab3_lit (lk 17 _ rfl) rfl (by decide) ⟨tab_lit (vs := []) (lk 7 _ rfl) rfl (by decide) trivial, tab_lit (lk 9 _ rfl) rfl (by decide) ⟨ints_lit _ (lk 8 _ rfl) rfl (by decide) rfl, trivial⟩, tab_lit (lk 12 _ rfl) rfl (by decide) ⟨ints_lit _ (lk 10 _ rfl) rfl (by decide) rfl, ints_lit _ (lk 11 _ rfl) rfl (by decide) rfl, trivial⟩, tab_lit (lk 16 _ rfl) rfl (by decide) ⟨ints_lit _ (lk 13 _ rfl) rfl (by decide) rfl, ints_lit _ (lk 14 _ rfl) rfl (by decide) rfl, ints_lit _ (lk 15 _ rfl) rfl (by decide) rfl, trivial⟩, trivial⟩⟩

set_option maxRecDepth 100000 in
set_option maxHeartbeats 1000000 in
theorem known_9 (w : World) (x : Int) (hx : -9223372036854775808 ≤ x ∧ x ≤ 9223372036854775807) (ht : x % 12 = 9) : Calls Try.prog 28 #[.int .i64 x] w (KnownPost w (knownD 9)) := by
  have HT := Lib.hid ht
  clear ht
  go_enter Try.func28, Try.ntmps28
  go_wp2_with (go_at_call 46; (refine (turn_any _ x 12 (by omega) (by omega) hx).mono ?_); rintro e w' ⟨rfl, rfl⟩; rw [HT.out])
  refine ret28 w [_, _, _, _, _, _, _, _, _] _ _ _ _ _ rfl rfl rfl (fun lk => ?_)
  exact ⟨ints_lit _ (lk 1 _ rfl) rfl (by decide) rfl, tab_lit (lk 4 _ rfl) rfl (by decide) ⟨ints_lit _ (lk 2 _ rfl) rfl (by decide) rfl, ints_lit _ (lk 3 _ rfl) rfl (by decide) rfl, trivial⟩, tab3_lit (lk 8 _ rfl) rfl (by decide) ⟨tab_lit (vs := []) (lk 5 _ rfl) rfl (by decide) trivial, tab_lit (lk 7 _ rfl) rfl (by decide) ⟨ints_lit _ (lk 6 _ rfl) rfl (by decide) rfl, trivial⟩, trivial⟩⟩

set_option maxRecDepth 100000 in
set_option maxHeartbeats 1000000 in
theorem known_10 (w : World) (x : Int) (hx : -9223372036854775808 ≤ x ∧ x ≤ 9223372036854775807) (ht : x % 12 = 10) : Calls Try.prog 28 #[.int .i64 x] w (KnownPost w (knownD 10)) := by
  have HT := Lib.hid ht
  clear ht
  go_enter Try.func28, Try.ntmps28
  go_wp2_with (go_at_call 46; (refine (turn_any _ x 12 (by omega) (by omega) hx).mono ?_); rintro e w' ⟨rfl, rfl⟩; rw [HT.out])
  refine ret28 w [_] _ _ _ _ _ rfl rfl rfl (fun lk => ?_)
  exact ⟨intsAt_nil', ⟨[], ⟨none, 0, 0, rfl, rfl, Nat.le_refl _, by simp, fun h => absurd h (by simp)⟩, rfl, fun i hi => absurd hi (by simp [knownD])⟩, ⟨[], ⟨none, 0, 0, rfl, rfl, Nat.le_refl _, by simp, fun h => absurd h (by simp)⟩, rfl, fun i hi => absurd hi (by simp [knownD])⟩⟩

set_option maxRecDepth 100000 in
set_option maxHeartbeats 1000000 in
theorem known_11 (w : World) (x : Int) (hx : -9223372036854775808 ≤ x ∧ x ≤ 9223372036854775807) (ht : x % 12 = 11) : Calls Try.prog 28 #[.int .i64 x] w (KnownPost w (knownD 11)) := by
  have HT := Lib.hid ht
  clear ht
  go_enter Try.func28, Try.ntmps28
  go_wp2_with (go_at_call 46; (refine (turn_any _ x 12 (by omega) (by omega) hx).mono ?_); rintro e w' ⟨rfl, rfl⟩; rw [HT.out])
  refine ret28 w [_, _, _, _, _, _] _ _ _ _ _ rfl rfl rfl (fun lk => ?_)
  exact ⟨ints_lit _ (lk 1 _ rfl) rfl (by decide) rfl, tab_lit (lk 3 _ rfl) rfl (by decide) ⟨ints_lit _ (lk 2 _ rfl) rfl (by decide) rfl, trivial⟩, tab3_lit (lk 5 _ rfl) rfl (by decide) ⟨tab_lit (vs := []) (lk 4 _ rfl) rfl (by decide) trivial, trivial⟩⟩

theorem known_any (w : World) (x : Int) (hx : -9223372036854775808 ≤ x ∧ x ≤ 9223372036854775807) : Calls Try.prog 28 #[.int .i64 x] w (KnownPost w (knownD (x % 12).toNat)) := by
  have h : x % 12 = 0 ∨ x % 12 = 1 ∨ x % 12 = 2 ∨ x % 12 = 3 ∨ x % 12 = 4 ∨ x % 12 = 5 ∨ x % 12 = 6 ∨ x % 12 = 7 ∨ x % 12 = 8 ∨ x % 12 = 9 ∨ x % 12 = 10 ∨ x % 12 = 11 := by omega
  rcases h with h | h | h | h | h | h | h | h | h | h | h | h
  · rw [h]; exact known_0 w x hx h
  · rw [h]; exact known_1 w x hx h
  · rw [h]; exact known_2 w x hx h
  · rw [h]; exact known_3 w x hx h
  · rw [h]; exact known_4 w x hx h
  · rw [h]; exact known_5 w x hx h
  · rw [h]; exact known_6 w x hx h
  · rw [h]; exact known_7 w x hx h
  · rw [h]; exact known_8 w x hx h
  · rw [h]; exact known_9 w x hx h
  · rw [h]; exact known_10 w x hx h
  · rw [h]; exact known_11 w x hx h
end Go.Proofs
namespace Go.Proofs
open Go.RowKit Go.Proofs.Pc

theorem isPer_of {P : PcD} {x : List Int} {n : Nat} (h1 : 1 ≤ n) (h2 : npow P x n = zV P) (h3 : ∀ j, j < n → 1 ≤ j → npow P x j ≠ zV P) : IsPer P x n := ⟨h1, h2, fun j a b => h3 j b a⟩
theorem kv0 : Valid (knownD 0) := valid_of_check (by rw [check_known0])
theorem kinv : invP (knownD 0) [1, 0, 0] = [1, 0, 1] := by decide +kernel
theorem kper1 : IsPer (knownD 0) [1, 1, 0] 4 := isPer_of (by decide) (by decide +kernel) (by decide +kernel)
theorem kper2 : IsPer (knownD 0) [0, 1, 1] 4 := isPer_of (by decide) (by decide +kernel) (by decide +kernel)
theorem kpow : npow (knownD 0) [1, 1, 0] ((3 : Int) % ((4 : Nat) : Int)).toNat = [1, 1, 1] := by decide +kernel
theorem kev : evW (knownD 0) [1, 2, -1, -2] = [0, 0, 1] := by decide +kernel
theorem kgood : ∀ k, k < [1, 2, -1, -2].length → goodL (knownD 0) (([1, 2, -1, -2] : List Int).getD k 0) := by decide +kernel
theorem krk : rk (knownD 0) [1, 0, 1] (knownD 0).n = 5 := by decide +kernel
theorem kel : elP (knownD 0) 6 = [1, 1, 0] := by decide +kernel
theorem kt1 : takeErr (knownD 0) [1, 0, 0] = 0 := by decide +kernel
theorem kt2 : takeErr (knownD 0) [1, 1, 0] = 0 := by decide +kernel
theorem kt3 : takeErr (knownD 0) [0, 1, 1] = 0 := by decide +kernel
theorem kt4 : takeErr (knownD 0) [1, 0, 1] = 0 := by decide +kernel
def sixD : PcD := ⟨[3, 2], [[0, 0], [0, 0]], [[], [[0, 1]]]⟩
def badD : PcD := ⟨[2, 3], [[0, 1], [0, 0]], [[], [[0, 2]]]⟩
def c1D : PcD := ⟨[1], [[0]], [[]]⟩
def c2D : PcD := ⟨[2], [], []⟩
def c3D : PcD := ⟨[2], [[1]], [[]]⟩
theorem six1 : (checkD sixD).1 = 0 := by decide +kernel
theorem six2 : consB sixD = true := by decide +kernel
theorem bad1 : (checkD badD).1 = 0 := by decide +kernel
theorem bad2 : consB badD = false := by decide +kernel
theorem two1 : (checkD (knownD 2)).1 = 0 := by decide +kernel
theorem two2 : consB (knownD 2) = true := by decide +kernel
theorem one1 : relsD (knownD 1) = (0, 2, [[1, 1], [2, 2, 2], [-1, 2, 1, -2, -2]]) := by decide +kernel
theorem chkc1 : checkD c1D = (2, 1) := by decide +kernel
theorem chkc2 : checkD c2D = (3, 0) := by decide +kernel
theorem chkc3 : checkD c3D = (2, 1) := by decide +kernel
end Go.Proofs
namespace Go.Proofs
open Go.RowKit Go.Proofs.Pc

theorem nil_sl {w : World} : Sl w (.slice none 0 0) [] := ⟨none, 0, 0, rfl, rfl, Nat.le_refl _, by simp, fun h => absurd h (by simp)⟩
def emptyD : PcD := ⟨[], [], []⟩
theorem pc_nil {w : World} : PcAt w (.slice none 0 0) (.slice none 0 0) (.slice none 0 0) emptyD :=
  ⟨⟨nil_sl, fun x hx => by cases hx⟩, ⟨[], nil_sl, rfl, fun i hi => absurd hi (by simp [emptyD])⟩, ⟨[], nil_sl, rfl, fun i hi => absurd hi (by simp [emptyD])⟩⟩
theorem same_nil (w : World) : Calls Try.prog 20 #[.agg #[.slice none 0 0, .slice none 0 0, .slice none 0 0], .agg #[.slice none 0 0, .slice none 0 0, .slice none 0 0]] w fun e w' => e = .returned (.bool true) ∧ Below w.heap.size w w' :=
  (same_any w _ _ _ _ _ _ emptyD emptyD pc_nil pc_nil).mono fun e w' ⟨he, hb⟩ => ⟨by rw [he, sameB_iff.2 rfl], hb⟩

/-- block bl holds the two groups -/
structure Alls (w : World) (wr : World) : Prop where
  g0 : wr.cell? ⟨w.heap.size + 1, 0, none⟩ = some (.pointer none)
  g1 : wr.cell? ⟨w.heap.size + 1, 1, none⟩ = some (.pointer (some ⟨w.heap.size, 0, none⟩))
  d1 : wr.cell? ⟨w.heap.size, 0, none⟩ = some (.pointer none)
  below : Below w.heap.size w wr
theorem Alls.step {w wr w' : World} (h : Alls w wr) (hb : Below wr.heap.size wr w') : Alls w w' := by
  have hk : ∀ {p : Addr} {v : Value}, wr.cell? p = some v → w'.cell? p = some v := fun {p v} hc => (hb.cell (World.block_lt_of_cell? wr _ hc)).trans hc
  exact ⟨hk h.g0, hk h.g1, hk h.d1, h.below.trans (hb.mono h.below.size)⟩

set_option maxRecDepth 100000 in
set_option maxHeartbeats 4000000 in
theorem none_walk (w : World) (xv yv nv wv : Value) : Calls Try.prog 6 #[xv, yv, nv, wv] w fun e w' => e = .returned (.bool true) ∧ Below w.heap.size w w' := by
  go_enter Try.func6, Try.ntmps6
  go_wp2_with fail
  go_loopw [10] (fun i wr => ∃ k : Nat, k ≤ 2 ∧ i = .int .i64 k ∧ Alls w wr) (fun i _ => 2 - (intOf i).toNat)
  case atStart =>
    refine ⟨0, by omega, rfl, ?_⟩
    have hc : ∀ i o, [Obj.cells #[Value.pointer none, .slice none 0 0, .slice none 0 0, .slice none 0 0] 64, Obj.cells #[Value.pointer none, .pointer (some ⟨w.heap.size, 0, none⟩)] 32][i]? = some o → _ := allocs_get [Obj.cells #[Value.pointer none, .slice none 0 0, .slice none 0 0, .slice none 0 0] 64, Obj.cells #[Value.pointer none, .pointer (some ⟨w.heap.size, 0, none⟩)] 32] w
    exact ⟨(cell_of_row _ _ 0 _ _ _ (hc 1 _ rfl)).trans rfl, (cell_of_row _ _ 1 _ _ _ (hc 1 _ rfl)).trans rfl, (cell_of_row _ _ 0 _ _ _ (hc 0 _ rfl)).trans rfl, allocs_below [_, _] w _ (Nat.le_refl _)⟩
  case round =>
    obtain ⟨k, hk, rfl, hA⟩ := hrel
    have c0 := hA.g0
    have c1 := hA.g1
    have HA := Lib.hid hA
    clear hA
    have hk2 : k = 0 ∨ k = 1 ∨ k = 2 := by omega
    rcases hk2 with rfl | rfl | rfl
    · go_wp2_with (first
        | (go_at_call 29; (refine (mul_dead _ _ (.inl rfl) _ _).mono ?_); rintro e w' ⟨rfl, hb⟩; have HA := Lib.hid (HA.out.step hb); clear hb)
        | (go_at_call 32; (refine (inv_dead _ _ (.inl rfl) _).mono ?_); rintro e w' ⟨rfl, hb⟩; have HA := Lib.hid (HA.out.step hb); clear hb)
        | (go_at_call 34; (refine (pow_dead _ _ (.inl rfl) _ _).mono ?_); rintro e w' ⟨rfl, hb⟩; have HA := Lib.hid (HA.out.step hb); clear hb)
        | (go_at_call 36; (refine (eval_dead _ _ (.inl rfl) _).mono ?_); rintro e w' ⟨rfl, hb⟩; have HA := Lib.hid (HA.out.step hb); clear hb)
        | (go_at_call 40; (refine (period_dead _ _ (.inl rfl) _).mono ?_); rintro e w' ⟨rfl, hb⟩; have HA := Lib.hid (HA.out.step hb); clear hb)
        | (go_at_call 42; (refine (rank_dead _ _ (.inl rfl) _).mono ?_); rintro e w' ⟨rfl, hb⟩; have HA := Lib.hid (HA.out.step hb); clear hb)
        | (go_at_call 38; (refine (element_dead _ _ (.inl rfl) _).mono ?_); rintro e w' ⟨rfl, hb⟩; have HA := Lib.hid (HA.out.step hb); clear hb)
        | (go_at_call 18; (refine (order_dead _ _ (.inl rfl)).mono ?_); rintro e w' ⟨rfl, rfl⟩)
        | (go_at_call 21; (refine (pc_dead _ _ (.inl rfl)).mono ?_); rintro e w' ⟨rfl, hb⟩; have HA := Lib.hid (HA.out.step hb); clear hb)
        | (go_at_call 20; (refine (same_nil _).mono ?_); rintro e w' ⟨rfl, hb⟩; have HA := Lib.hid (HA.out.step hb); clear hb))
      go_roundw
      case rel => exact ⟨1, by omega, by go_num, HA.out⟩
      case measure => simp [intOf]
    · go_wp2_with (first
        | (go_at_call 29; (refine (mul_dead _ _ (.inr ⟨_, rfl, HA.out.d1⟩) _ _).mono ?_); rintro e w' ⟨rfl, hb⟩; have HA := Lib.hid (HA.out.step hb); clear hb)
        | (go_at_call 32; (refine (inv_dead _ _ (.inr ⟨_, rfl, HA.out.d1⟩) _).mono ?_); rintro e w' ⟨rfl, hb⟩; have HA := Lib.hid (HA.out.step hb); clear hb)
        | (go_at_call 34; (refine (pow_dead _ _ (.inr ⟨_, rfl, HA.out.d1⟩) _ _).mono ?_); rintro e w' ⟨rfl, hb⟩; have HA := Lib.hid (HA.out.step hb); clear hb)
        | (go_at_call 36; (refine (eval_dead _ _ (.inr ⟨_, rfl, HA.out.d1⟩) _).mono ?_); rintro e w' ⟨rfl, hb⟩; have HA := Lib.hid (HA.out.step hb); clear hb)
        | (go_at_call 40; (refine (period_dead _ _ (.inr ⟨_, rfl, HA.out.d1⟩) _).mono ?_); rintro e w' ⟨rfl, hb⟩; have HA := Lib.hid (HA.out.step hb); clear hb)
        | (go_at_call 42; (refine (rank_dead _ _ (.inr ⟨_, rfl, HA.out.d1⟩) _).mono ?_); rintro e w' ⟨rfl, hb⟩; have HA := Lib.hid (HA.out.step hb); clear hb)
        | (go_at_call 38; (refine (element_dead _ _ (.inr ⟨_, rfl, HA.out.d1⟩) _).mono ?_); rintro e w' ⟨rfl, hb⟩; have HA := Lib.hid (HA.out.step hb); clear hb)
        | (go_at_call 18; (refine (order_dead _ _ (.inr ⟨_, rfl, HA.out.d1⟩)).mono ?_); rintro e w' ⟨rfl, rfl⟩)
        | (go_at_call 21; (refine (pc_dead _ _ (.inr ⟨_, rfl, HA.out.d1⟩)).mono ?_); rintro e w' ⟨rfl, hb⟩; have HA := Lib.hid (HA.out.step hb); clear hb)
        | (go_at_call 20; (refine (same_nil _).mono ?_); rintro e w' ⟨rfl, hb⟩; have HA := Lib.hid (HA.out.step hb); clear hb))
      go_roundw
      case rel => exact ⟨2, by omega, by go_num, HA.out⟩
      case measure => simp [intOf]
    · go_wp2_with (go_at_call 13; (refine (awake_any _).mono ?_); rintro e w' ⟨rfl, hb⟩; have HA := Lib.hid (HA.out.step hb); clear hb)
      go_ret
      exact ⟨rfl, HA.out.below⟩
end Go.Proofs
