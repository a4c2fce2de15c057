/- Eval of a word with a letter that is none; The methods of both sides: one contract each. -/
import Derived.Test.YtnhoiompdjabbaaB4
import Derived.Test.YtnhoiompdjabbaaF3
import Derived.Test.YtnhoiompdjabbaaD1
namespace Go.Proofs
open Go.RowKit Go.Proofs.Pc
attribute [local simp, local go_sem] wide_fn wide_depth

set_option maxRecDepth 100000 in
set_option maxHeartbeats 2000000 in
theorem eval_bad_in {P : PcD} (hv : Valid P) (w : World) (bg br : Nat) (hg : Live w bg br) (hr : RulesAt w br P) (s1 : Value) (ws : List Int) (h1 : IntsAt w s1 ws) (hl : ws.length ≤ 4000) (j : Nat) (hj : j < ws.length) (hb : ¬ goodL P (ws.getD j 0)) (hgd : ∀ k, k < j → goodL P (ws.getD k 0)) :
    CallsIn Fence.wide 3 Try.prog 36 #[.pointer (some ⟨bg, 0, none⟩), s1] w (LRet 2 [] w) := by
  obtain ⟨A, ca, rfl, ha1, ha2, ha⟩ := h1.open_
  have h12 := hv.n12
  have hbr := hr.lt
  have dl : decide ((4000 : Int) < (ws.length : Int)) = false := decide_eq_false (by omega)
  have hge := hg
  unfold Live at hge
  have HR := Lib.hid hr
  have HG := Lib.hid hg
  have HA := Lib.hid ha
  have HGOOD := Lib.hid hgd
  have HBAD := Lib.hid hb
  have HB0 : Hid (Below w.heap.size w (w.alloc (.cells (Value.pointer (some ⟨br, 0, none⟩) :: vec []).toArray 113))) := Lib.hid ((Below.refl _ _).alloc (Nat.le_refl _) _)
  have HC0 : Hid (CollAt (w.alloc (.cells (Value.pointer (some ⟨br, 0, none⟩) :: vec []).toArray 113)) w.heap.size br (zV P)) := Lib.hid (by unfold CollAt; rw [vec_zV]; exact heap_alloc_new _ _)
  have HZ := Lib.hid (NV_z hv)
  clear hr hg ha hgd hb h1
  gi_enter Try.func36, Try.ntmps36
  gi_wp2_with (first
    | (with_reducible refine (callsIn_wide.2 (valid_live' w bg br HG.out)).mono ?_; rintro e w' ⟨rfl, rfl⟩)
    | ((with_reducible refine wpListIn_sel 22 ?_); refine wpListIn_val rfl (r_b113 (.tmp 21) br rfl rfl) ?_))
  have hbcn : w.heap.size ≠ br := by omega
  generalize hW : w.alloc (.cells (Value.pointer (some ⟨br, 0, none⟩) :: vec []).toArray 113) = W at *
  clear hW hge
  gi_loopw [26] (fun s wr => ∃ k : Nat, k ≤ j ∧ s = .int .i64 k ∧ CollAt wr w.heap.size br (evTo P ws k) ∧ Below w.heap.size w wr) (fun s _ => j - (intOf s).toNat)
  case atStart => exact ⟨0, Nat.zero_le _, rfl, HC0.out, HB0.out⟩
  case round =>
    obtain ⟨k, hk, rfl, hC, hB⟩ := hrel
    have HC := Lib.hid hC
    have HB := Lib.hid hB
    have HNV := Lib.hid (evTo_NV hv (ws := ws) k)
    have hge1 : wr.cell? ⟨bg, 0, none⟩ = some (.pointer (some ⟨br, 0, none⟩)) := (KC.of_below hB).cell HG.out
    have hrr := (KC.of_below hB).rules HR.out
    have HRR := Lib.hid hrr
    have hrn := hrr.n
    have hcs := hC.lt
    have HFW : Hid (∀ {w : World}, Below wr.heap.size wr w → RulesAt w br P ∧ w.cell? ⟨bg, 0, none⟩ = some (.pointer (some ⟨br, 0, none⟩))) := Lib.hid (fun h => ⟨(KC.of_below h).rules hrr, (KC.of_below h).cell hge1⟩)
    have hkl : k < ws.length := by omega
    by_cases hlt : k < j
    · obtain ⟨b, off, rfl, hcb⟩ := HA.out (by omega)
      have cx := (KC.of_below hB).cell (hcb k hkl)
      have hgk := HGOOD.out k hlt
      have HS := Lib.hid (evTo_succ P ws k)
      have hk0 : (0 : Int) ≤ (k : Int) := Int.natCast_nonneg _
      have hk1 : (k : Int) < (ws.length : Int) := by omega
      unfold goodL at hgk
      generalize ws.getD k 0 = x at *
      generalize evTo P ws k = v at *
      obtain ⟨g1, g2, g3⟩ := hgk
      clear hC hB hrr hcb
      have e1 : (x == 0) = false := beq_eq_false_iff_ne.2 g1
      have e2 : decide (x < -(P.n : Int)) = false := decide_eq_false (by omega)
      have e3 : decide ((P.n : Int) < x) = false := decide_eq_false (by omega)
      rcases Int.lt_or_gt_of_ne g1 with hx | hx
      · have e4 : decide (0 < x) = false := decide_eq_false (by omega)
        obtain ⟨i, hi⟩ : ∃ i : Nat, -x - 1 = (i : Int) := ⟨(-x - 1).toNat, by omega⟩
        obtain rfl : x = -(i : Int) - 1 := by omega
        have hin : i < P.n := by omega
        have hni : -(-(i : Int) - 1) - 1 = (i : Int) := by omega
        have HNI := Lib.hid hni
        have HSX : Hid (stepW P (-(i : Int) - 1) v = mulP P v (invP P (uP P i 1))) := Lib.hid (stepW_neg P i v)
        clear hi hni g1 g2 g3
        gi_wp2_with fail
        have hni := HNI.out
        have hfw : ∀ {w : World}, Below wr.heap.size wr w → RulesAt w br P ∧ w.cell? ⟨bg, 0, none⟩ = some (.pointer (some ⟨br, 0, none⟩)) := HFW.out
        refine wpIn_region_one (by kernel_rfl) dmEv 10 (tailed1_of (by kernel_rfl)) (fun w' => Below wr.heap.size wr w') (fun q v wz => ((([SW2.s (SW.c (.pointer (some ⟨w.heap.size, 0, none⟩))), SW2.s (SW.c (.pointer (some ⟨bg, 0, none⟩))), SW2.s (SW.c (.pointer (some ⟨bg, 0, none⟩))), SW2.s (SW.c (.pointer (some ⟨bg, 0, none⟩))), SW2.s (SW.c (.pointer (some ⟨br, 0, none⟩))), SW2.s (SW.c (.int .i64 (-(i : Int) - 1))), SW2.s (SW.c (.int .i64 (-(-(i : Int) - 1)))), SW2.s (SW.c (.int .i64 (i : Int))), SW2.s (SW.c (.agg (vec (uP P i 1)).toArray)), SW2.s (SW.c (.agg (vec (invP P (uP P i 1))).toArray))]) : List SW2).getD q SW2.any).holds P v wz) (fun w w' => Below w.heap.size w w') (inj_of (by decide)) (fun q v w w' h => SW2.keep h) (lt_of (n := 79) (by decide)) (Below.refl _ _).drew ?_ ?_
        · intro q o a w9 hq ho hS hsame hpre
          have hcases : q = 0 ∨ q = 1 ∨ q = 2 ∨ q = 3 ∨ q = 4 ∨ q = 5 ∨ q = 6 ∨ q = 7 ∨ q = 8 ∨ q = 9 := by omega
          rcases hcases with rfl | rfl | rfl | rfl | rfl | rfl | rfl | rfl | rfl | rfl
          · obtain rfl := Option.some.inj ho; exact ⟨rfl, rfl, (by exact wpW_val (r_move (.tmp 6) rfl (hsame.out 6 (by decide))) ⟨_, rfl, hS, Below.refl _ _, rfl⟩)⟩
          · obtain rfl := Option.some.inj ho; exact ⟨rfl, rfl, (by exact wpW_val (r_move (.tmp 0) rfl (hsame.out 0 (by decide))) ⟨_, rfl, hS, Below.refl _ _, rfl⟩)⟩
          · obtain rfl := Option.some.inj ho; exact ⟨rfl, rfl, (by exact wpW_val (r_nil (.tmp 38) _ rfl (hpre ⟨1, .data⟩ (by simp) rfl)) ⟨_, rfl, hS, Below.refl _ _, rfl⟩)⟩
          · obtain rfl := Option.some.inj ho; exact ⟨rfl, rfl, (by exact wpW_val (r_fld (.tmp 39) _ rfl (hpre ⟨2, .data⟩ (by simp) rfl) (fld64_0 _ _)) ⟨_, rfl, hS, Below.refl _ _, rfl⟩)⟩
          · obtain rfl := Option.some.inj ho; exact ⟨rfl, rfl, (by exact wpW_val (r_load62 (.tmp 40) ⟨bg, 0, none⟩ rfl (hpre ⟨3, .data⟩ (by simp) rfl) (hfw hS).2) ⟨_, rfl, hS, Below.refl _ _, rfl⟩)⟩
          · obtain rfl := Option.some.inj ho; exact ⟨rfl, rfl, (by exact wpW_val (r_move (.tmp 8) rfl (hsame.out 8 (by decide))) ⟨_, rfl, hS, Below.refl _ _, rfl⟩)⟩
          · obtain rfl := Option.some.inj ho; exact ⟨rfl, rfl, (by exact wpW_val (r_neg (.tmp 42) (-(i : Int) - 1) rfl (hpre ⟨5, .data⟩ (by simp) rfl) (by omega) (by omega)) ⟨_, rfl, hS, Below.refl _ _, rfl⟩)⟩
          · obtain rfl := Option.some.inj ho; exact ⟨rfl, rfl, (by exact wpW_val (r_subc (.tmp 43) (-(-(i : Int) - 1)) 1 rfl (hpre ⟨6, .data⟩ (by simp) rfl) (by omega) (by omega)) ⟨_, rfl, hS, Below.refl _ _, by show (Value.int .i64 _ : Value) = _; rw [hni]⟩)⟩
          · obtain rfl := Option.some.inj ho; exact ⟨rfl, rfl, (by exact wpW_call (r_call2 (.tmp 44) (.const (.int .i64 1)) _ _ _ rfl (hpre ⟨7, .data⟩ (by simp) rfl) rfl call81) (unit_R1 hv hin) (fun v w'' h => ⟨v, rfl, hS.trans (h.2.mono hS.size), h.2, h.1⟩))⟩
          · obtain rfl := Option.some.inj ho; exact ⟨rfl, rfl, (by exact wpW_call (r_call2 (.tmp 41) (.tmp 45) _ _ _ rfl (hpre ⟨4, .data⟩ (by simp) rfl) (hpre ⟨8, .data⟩ (by simp) rfl) call73) (inverse_R hv (hfw hS).1 (uP_NV hv (by omega) (fun h => by have := hv.ord2 i h; omega))) (fun v w'' h => ⟨v, rfl, hS.trans (h.2.mono hS.size), h.2, h.1⟩))⟩
        intro a w2 hS hsame hsl
        have e0 := hsl 0 (by omega)
        have e9 := hsl 9 (by omega)
        obtain ⟨vs, hvs, hfr⟩ := hsame.frameV 79 rfl
        refine wpOpIn_of (o := ⟨some 47, .call ⟨.value (.func 80), #[.tmp 37, .tmp 46], #[111, 82]⟩, _, _, _, none⟩) rfl rfl (wpW_call (r_call2 (.tmp 37) (.tmp 46) _ _ _ rfl e0 e9 call80) (by_R hv (HC.out.below hS) (hfw hS).1 hbcn HNV.out (invP_NV hv (uP_NV hv (by omega) (fun h => by have := hv.ord2 i h; omega)))) ?_)
        rintro v w3 ⟨hc3, hg3⟩
        have HC3 := Lib.hid hc3
        have HB3 := Lib.hid ((HB.out.trans (hS.mono HB.out.size)).grown hg3 (Nat.le_trans HB.out.size hS.size) (fun k e => by cases e; omega))
        clear hsl hsame hvs e0 e9 hS hc3 hg3
        subst hfr
        dsimp only
        simp only [Act.put, List.range, List.range.loop, List.map_cons, List.map_nil, List.any_cons, List.any_nil, dmEv, List.getD_cons_zero, List.getD_cons_succ, Nat.reduceBEq, Bool.or_false, Bool.or_true, Bool.false_eq_true, if_true, if_false, List.setIfInBounds_toArray, List.set_cons_succ, List.set_cons_zero]
        clear hfw
        gi_wp2_with fail
        go_roundw
        case rel => exact ⟨k + 1, by omega, by go_num, by rw [HS.out, HSX.out]; exact HC3.out, HB3.out⟩
        case measure => simp [intOf]; omega
      · have e4 : decide (0 < x) = true := decide_eq_true (by omega)
        obtain ⟨i, hi⟩ : ∃ i : Nat, x - 1 = (i : Int) := ⟨(x - 1).toNat, by omega⟩
        obtain rfl : x = (i : Int) + 1 := by omega
        have hin : i < P.n := by omega
        have hni : (i : Int) + 1 - 1 = (i : Int) := by omega
        have HNI := Lib.hid hni
        have HSX : Hid (stepW P ((i : Int) + 1) v = T P i v) := Lib.hid (stepW_pos P i v hin)
        clear hi hni g1 g2 g3
        have HTC := Lib.hid (times_c hv HC.out HRR.out hbcn HNV.out hin)
        gi_wp2_with ((with_reducible refine (callsIn_wide.2 HTC.out).mono ?_); rintro e w5 ⟨rfl, hc5, hg5⟩)
        go_roundw
        case rel => exact ⟨k + 1, by omega, by go_num, by rw [HS.out, HSX.out]; exact hc5, HB.out.grown hg5 HB.out.size (fun k e => by cases e; omega)⟩
        case measure => simp [intOf]; omega
    · obtain rfl : k = j := by omega
      obtain ⟨b, off, rfl, hcb⟩ := HA.out (by omega)
      have cx := (KC.of_below hB).cell (hcb k hkl)
      have hgk := HBAD.out
      have hk0 : (0 : Int) ≤ (k : Int) := Int.natCast_nonneg _
      have hk1 : (k : Int) < (ws.length : Int) := by omega
      unfold goodL at hgk
      generalize ws.getD k 0 = x at *
      clear hC hB hrr hcb
      have hcase : x = 0 ∨ (x ≠ 0 ∧ x < -(P.n : Int)) ∨ (x ≠ 0 ∧ ¬ x < -(P.n : Int) ∧ (P.n : Int) < x) := by omega
      rcases hcase with h1 | ⟨h1, h2⟩ | ⟨h1, h2, h3⟩
      · have e1 : (x == 0) = true := by simp [h1]
        clear hgk
        gi_wp2_with fail
        go_ret2
        exact ⟨⟨_, rfl, ints_nil _⟩, HB.out⟩
      · have e1 : (x == 0) = false := beq_eq_false_iff_ne.2 h1
        have e2 : decide (x < -(P.n : Int)) = true := decide_eq_true h2
        clear hgk
        gi_wp2_with fail
        go_ret2
        exact ⟨⟨_, rfl, ints_nil _⟩, HB.out⟩
      · have e1 : (x == 0) = false := beq_eq_false_iff_ne.2 h1
        have e2 : decide (x < -(P.n : Int)) = false := decide_eq_false h2
        have e3 : decide ((P.n : Int) < x) = true := decide_eq_true h3
        clear hgk
        gi_wp2_with fail
        go_ret2
        exact ⟨⟨_, rfl, ints_nil _⟩, HB.out⟩
theorem eval_bad {P : PcD} (hv : Valid P) (w : World) (bg br : Nat) (hg : Live w bg br) (hr : RulesAt w br P) (s1 : Value) (ws : List Int) (h1 : IntsAt w s1 ws) (hl : ws.length ≤ 4000) (j : Nat) (hj : j < ws.length) (hb : ¬ goodL P (ws.getD j 0)) (hgd : ∀ k, k < j → goodL P (ws.getD k 0)) :
    Calls Try.prog 36 #[.pointer (some ⟨bg, 0, none⟩), s1] w (LRet 2 [] w) := callsIn_wide.1 (eval_bad_in hv w bg br hg hr s1 ws h1 hl j hj hb hgd)
end Go.Proofs
namespace Go.Proofs
open Go.RowKit Go.Proofs.Pc

theorem LRet.nil {ee : Int} {w : World} {e : Ending} {w' : World} (h : e = .returned (.tuple #[.slice none 0 0, .int .i64 ee]) ∧ Below w.heap.size w w') : LRet ee [] w e w' := ⟨⟨_, h.1, ints_nil _⟩, h.2⟩
/-- the lists that the methods hand back -/
def mulZ (P : PcD) (x y : List Int) : List Int := if mulErr P x y = 0 then mulP P x y else []
def invZ (P : PcD) (x : List Int) : List Int := if takeErr P x = 0 then invP P x else []
def powZ (P : PcD) (x : List Int) (n : Int) (k : Nat) : List Int := if takeErr P x = 0 then npow P x (n % (k : Int)).toNat else []
def elE (P : PcD) (r : Int) : Int := if r < 0 ∨ prod P P.n ≤ r then 2 else 0
def elZ (P : PcD) (r : Int) : List Int := if r < 0 ∨ prod P P.n ≤ r then [] else elP P r
def perZ (P : PcD) (x : List Int) (k : Nat) : Int := if takeErr P x = 0 then (k : Int) else 0
def rkZ (P : PcD) (x : List Int) : Int := if takeErr P x = 0 then rk P x P.n else 0
/-- k is the order of x, if x is normal -/
def PerOf (P : PcD) (x : List Int) (k : Nat) : Prop := takeErr P x = 0 → IsPer P x k ∧ (k : Int) ≤ 50000
theorem perOf_ex {P : PcD} (hv : Valid P) (hc : consB P = true) (hp : prod P P.n ≤ 50000) (x : List Int) : ∃ k, PerOf P x k := by
  by_cases hx : takeErr P x = 0
  · obtain ⟨k, h1, h2⟩ := per_exists hv hc (takeErr_NV hx)
    exact ⟨k, fun _ => ⟨h1, by omega⟩⟩
  · exact ⟨0, fun h => absurd h hx⟩
section
variable {P : PcD} (w : World) (bg br bh : Nat) (s1 s2 : Value) (x y : List Int)

theorem mul_L (hg : GrpAt w bg br P) (h2 : IntsAt w s2 y) (hv : Valid P) (h1 : IntsAt w s1 x) : Calls Try.prog 29 #[.pointer (some ⟨bg, 0, none⟩), s1, s2] w (LRet (mulErr P x y) (mulZ P x y) w) := by
  unfold mulZ
  by_cases h : mulErr P x y = 0
  · have h0 : takeErr P x = 0 := by
      unfold mulErr at h
      split at h
      · assumption
      · exact h
    have h3 : takeErr P y = 0 := by
      unfold mulErr at h
      rw [if_pos h0] at h
      exact h
    rw [if_pos h, h]
    exact (mul_eval hv hg h1 h2 h0 h3 rfl).mono fun e w' ⟨A, c, he, hi, hb⟩ => ⟨⟨_, he, hi⟩, hb⟩
  · rw [if_neg h]
    exact (mul_bad hv w bg br hg.live hg.rules s1 s2 x y h1 h2 h).mono fun e w' h => LRet.nil h
theorem mul_M (hg : RGrpAt w bh P) (h2 : IntsAt w s2 y) (hv : Valid P) (h1 : IntsAt w s1 x) : Calls Try.prog 30 #[.pointer (some ⟨bh, 0, none⟩), s1, s2] w (LRet (mulErr P x y) (mulZ P x y) w) := mulRef_any hv w bh hg s1 s2 x y h1 h2
theorem inv_L (hg : GrpAt w bg br P) (hv : Valid P) (h1 : IntsAt w s1 x) : Calls Try.prog 32 #[.pointer (some ⟨bg, 0, none⟩), s1] w (LRet (takeErr P x) (invZ P x) w) := by
  unfold invZ
  by_cases h : takeErr P x = 0
  · rw [if_pos h, h]; exact inv_live hv w bg br hg.live hg.rules s1 x h1 h
  · rw [if_neg h]; exact (inv_bad hv w bg br hg.live hg.rules s1 x h1 h).mono fun e w' h => LRet.nil h
theorem inv_M (hg : RGrpAt w bh P) (hv : Valid P) (h1 : IntsAt w s1 x) : Calls Try.prog 33 #[.pointer (some ⟨bh, 0, none⟩), s1] w (LRet (takeErr P x) (invZ P x) w) := by
  unfold invZ
  by_cases h : takeErr P x = 0
  · rw [if_pos h, h]; exact invRef_good hv w bh hg s1 x h1 h
  · rw [if_neg h]; exact (invRef_bad w bh hg s1 x h1 h).mono fun e w' h => LRet.nil h
theorem pow_L (hg : GrpAt w bg br P) (hv : Valid P) (hc : consB P = true) (hp : prod P P.n ≤ 50000) (h1 : IntsAt w s1 x) (n : Int) (k : Nat) (hk : PerOf P x k) : Calls Try.prog 34 #[.pointer (some ⟨bg, 0, none⟩), s1, .int .i64 n] w (LRet (takeErr P x) (powZ P x n k) w) := by
  unfold powZ
  by_cases h : takeErr P x = 0
  · rw [if_pos h, h]; exact pow_live hv hc hp w bg br hg.live hg.rules s1 x n h1 h k (hk h).1 (hk h).2
  · rw [if_neg h]; exact (pow_bad hv w bg br hg.live hg.rules s1 x n h1 h).mono fun e w' h => LRet.nil h
theorem pow_M (hg : RGrpAt w bh P) (hv : Valid P) (hc : consB P = true) (hp : prod P P.n ≤ 50000) (h1 : IntsAt w s1 x) (n : Int) (k : Nat) (hk : PerOf P x k) : Calls Try.prog 35 #[.pointer (some ⟨bh, 0, none⟩), s1, .int .i64 n] w (LRet (takeErr P x) (powZ P x n k) w) := by
  unfold powZ
  by_cases h : takeErr P x = 0
  · rw [if_pos h, h]; exact powRef_good hv hc hp w bh hg s1 x n h1 h k (hk h).1 (hk h).2
  · rw [if_neg h]; exact (powRef_bad w bh hg s1 x n h1 h).mono fun e w' h => LRet.nil h
theorem el_L (hg : GrpAt w bg br P) (hv : Valid P) (hs : Small P) (r : Int) : Calls Try.prog 38 #[.pointer (some ⟨bg, 0, none⟩), .int .i64 r] w (LRet (elE P r) (elZ P r) w) := by
  unfold elE elZ
  by_cases h : r < 0 ∨ prod P P.n ≤ r
  · rw [if_pos h, if_pos h]; exact (element_bad hv hs w bg br hg.live hg.rules r h).mono fun e w' h => LRet.nil ⟨h.1, h.2 ▸ Below.refl _ _⟩
  · rw [if_neg h, if_neg h]; exact element_live hv hs w bg br hg.live hg.rules r (by omega) (by omega)
theorem el_M (hg : RGrpAt w bh P) (hv : Valid P) (hs : Small P) (r : Int) : Calls Try.prog 39 #[.pointer (some ⟨bh, 0, none⟩), .int .i64 r] w (LRet (elE P r) (elZ P r) w) := by
  unfold elE elZ
  by_cases h : r < 0 ∨ prod P P.n ≤ r
  · rw [if_pos h, if_pos h]; exact (elemRef_bad hs w bh hg r h).mono fun e w' h => LRet.nil ⟨h.1, h.2 ▸ Below.refl _ _⟩
  · rw [if_neg h, if_neg h]; exact elemRef_good hv hs w bh hg r (by omega) (by omega)
/-- Eval of any word: one error and one list of both sides -/
theorem ev_LM (hv : Valid P) (ws : List Int) (hl : ws.length ≤ 4000) : ∃ ee z, (∀ (w : World) (bg br : Nat) (s1 : Value), GrpAt w bg br P → IntsAt w s1 ws → Calls Try.prog 36 #[.pointer (some ⟨bg, 0, none⟩), s1] w (LRet ee z w)) ∧
    ∀ (w : World) (bh : Nat) (s1 : Value), RGrpAt w bh P → IntsAt w s1 ws → Calls Try.prog 37 #[.pointer (some ⟨bh, 0, none⟩), s1] w (LRet ee z w) := by
  rcases first_bad (P := P) ws 0 (Nat.zero_le _) (fun k hk => absurd hk (by omega)) with h | ⟨j, h1, h2, h3⟩
  · exact ⟨0, evW P ws, fun w bg br s1 hg h1 => eval_live hv w bg br hg.live hg.rules s1 ws h1 hl h, fun w bh s1 hg h1 => evalRef_good hv w bh hg s1 ws h1 hl h⟩
  · exact ⟨2, [], fun w bg br s1 hg hi => eval_bad hv w bg br hg.live hg.rules s1 ws hi hl j h1 h2 h3, fun w bh s1 hg hi => (evalRef_bad hv w bh hg s1 ws hi hl j h1 h2 h3).mono fun e w' h => LRet.nil h⟩
theorem per_L (hg : GrpAt w bg br P) (hv : Valid P) (hc : consB P = true) (hp : prod P P.n ≤ 50000) (h1 : IntsAt w s1 x) (k : Nat) (hk : PerOf P x k) : Calls Try.prog 40 #[.pointer (some ⟨bg, 0, none⟩), s1] w fun e w' => e = .returned (.tuple #[.int .i64 (perZ P x k), .int .i64 (takeErr P x)]) ∧ Below w.heap.size w w' := by
  unfold perZ
  by_cases h : takeErr P x = 0
  · rw [if_pos h, h]; exact (per_live hv hc hp w bg br hg.live hg.rules s1 x h1 h).mono fun e w' ⟨⟨n, hn, _, he⟩, hb⟩ => ⟨by rw [he, hn.unique (hk h).1], hb⟩
  · rw [if_neg h]; exact per_bad hv w bg br hg.live hg.rules s1 x h1 h
theorem per_M (hg : RGrpAt w bh P) (hv : Valid P) (hc : consB P = true) (hp : prod P P.n ≤ 50000) (h1 : IntsAt w s1 x) (k : Nat) (hk : PerOf P x k) : Calls Try.prog 41 #[.pointer (some ⟨bh, 0, none⟩), s1] w fun e w' => e = .returned (.tuple #[.int .i64 (perZ P x k), .int .i64 (takeErr P x)]) ∧ Below w.heap.size w w' := by
  unfold perZ
  by_cases h : takeErr P x = 0
  · rw [if_pos h, h]; exact (perMRef_good hv hc hp w bh hg s1 x h1 h).mono fun e w' ⟨⟨n, hn, _, he⟩, hb⟩ => ⟨by rw [he, hn.unique (hk h).1], hb⟩
  · rw [if_neg h]; exact perMRef_bad w bh hg s1 x h1 h
theorem rk_L (hg : GrpAt w bg br P) (hv : Valid P) (hs : Small P) (h1 : IntsAt w s1 x) : Calls Try.prog 42 #[.pointer (some ⟨bg, 0, none⟩), s1] w fun e w' => e = .returned (.tuple #[.int .i64 (rkZ P x), .int .i64 (takeErr P x)]) ∧ Below w.heap.size w w' := by
  unfold rkZ
  by_cases h : takeErr P x = 0
  · rw [if_pos h, h]; exact rank_live hv hs w bg br hg.live hg.rules s1 x h1 h
  · rw [if_neg h]; exact rank_bad hv w bg br hg.live hg.rules s1 x h1 h
theorem rk_M (hg : RGrpAt w bh P) (hv : Valid P) (hs : Small P) (h1 : IntsAt w s1 x) : Calls Try.prog 43 #[.pointer (some ⟨bh, 0, none⟩), s1] w fun e w' => e = .returned (.tuple #[.int .i64 (rkZ P x), .int .i64 (takeErr P x)]) ∧ Below w.heap.size w w' := by
  unfold rkZ
  by_cases h : takeErr P x = 0
  · rw [if_pos h, h]; exact rankRef_good hv hs w bh hg s1 x h1 h
  · rw [if_neg h]; exact rankRef_bad w bh hg s1 x h1 h
end
end Go.Proofs
