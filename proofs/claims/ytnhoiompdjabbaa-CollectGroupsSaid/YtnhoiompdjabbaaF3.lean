/- The reference's Eval; Inv, Pow, Period, Rank, Mul of lists that are not normal. -/
import Derived.Test.YtnhoiompdjabbaaF2
import Derived.Test.YtnhoiompdjabbaaB3
namespace Go.Proofs
open Go.RowKit Go.Proofs.Pc

/-- the first letter that is none -/
theorem first_bad {P : PcD} : ∀ (ws : List Int) (m : Nat), m ≤ ws.length → (∀ k, k < m → goodL P (ws.getD k 0)) → (∀ k, k < ws.length → goodL P (ws.getD k 0)) ∨ ∃ j, j < ws.length ∧ ¬ goodL P (ws.getD j 0) ∧ ∀ k, k < j → goodL P (ws.getD k 0)
  | ws, m, hm, h => by
    by_cases he : m = ws.length
    · exact .inl (he ▸ h)
    · by_cases hg : goodL P (ws.getD m 0)
      · exact first_bad ws (m + 1) (by omega) (fun k hk => by
          rcases Nat.lt_or_ge k m with h1 | h1
          · exact h k h1
          · obtain rfl : k = m := by omega
            exact hg)
      · exact .inr ⟨m, by omega, hg, h⟩
termination_by ws m => ws.length - m

set_option maxRecDepth 100000 in
set_option maxHeartbeats 1000000 in
theorem evalRef_bad {P : PcD} (hv : Valid P) (w : World) (bh : Nat) (hg : RGrpAt w bh P) (s1 : Value) (ws : List Int) (h1 : IntsAt w s1 ws) (hl : ws.length ≤ 4000) (j : Nat) (hj : j < ws.length) (hb : ¬ goodL P (ws.getD j 0)) (hgd : ∀ k, k < j → goodL P (ws.getD k 0)) :
    Calls Try.prog 37 #[.pointer (some ⟨bh, 0, none⟩), s1] w fun e w' => e = .returned (.tuple #[.slice none 0 0, .int .i64 2]) ∧ Below w.heap.size w w' := by
  obtain ⟨A, ca, rfl, ha1, ha2, ha⟩ := h1.open_
  have h12 : P.orders.length ≤ 12 := hv.n12
  have dl : decide ((4000 : Int) < (ws.length : Int)) = false := decide_eq_false (by omega)
  obtain ⟨A0, c0, A1, c1, A2, c2, hh, hP, hc0, hc1⟩ := hg.open_
  obtain ⟨k0, k1, k2⟩ := row80 hh
  have HA := Lib.hid ha
  have HF := Lib.hid h1.2
  have HB := Lib.hid hb
  have HGD := Lib.hid hgd
  clear hg ha h1 hh hP hb hgd
  go_enter Try.func37, Try.ntmps37
  go_wp2_with fail
  go_loopw [7] (fun s wr => ∃ k : Nat, k ≤ j ∧ s = .int .i64 k ∧ ∃ q, wr = w.drewN q) (fun s _ => j - (intOf s).toNat)
  case atStart => exact ⟨0, Nat.zero_le _, rfl, 0, rfl⟩
  case round =>
    obtain ⟨k, hk, rfl, q, rfl⟩ := hrel
    obtain ⟨b, off, rfl, hc⟩ := HA.out (by omega)
    have hck := hc k (by omega)
    have hk0 : (0 : Int) ≤ (k : Int) := Int.natCast_nonneg _
    have hk1 : (k : Int) < (ws.length : Int) := by omega
    have HBB := Lib.hid (fun h : k = j => h ▸ HB.out)
    have HGG := Lib.hid (fun h : k < j => HGD.out k h)
    have hxf := HF.out.at_ k
    generalize ws.getD k 0 = x at *
    by_cases hkj : k = j
    · have hbad := HBB.out hkj
      clear hc hkj
      have hcase : x = 0 ∨ (x ≠ 0 ∧ (P.orders.length : Int) < x) ∨ (x ≠ 0 ∧ ¬ (P.orders.length : Int) < x ∧ x < -(P.orders.length : Int)) := by
        have hn : P.n = P.orders.length := rfl
        unfold goodL at hbad
        rw [hn] at hbad
        omega
      rcases hcase with h1 | ⟨h1, h2⟩ | ⟨h1, h2, h3⟩
      · have d1 : (x == 0) = true := by simp [h1]
        go_wp2_with fail
        go_ret2
        exact ⟨rfl, below_drewN (Below.refl _ _) _⟩
      · have d1 : (x == 0) = false := beq_eq_false_iff_ne.2 h1
        have d2 : decide ((P.orders.length : Int) < x) = true := decide_eq_true h2
        go_wp2_with fail
        go_ret2
        exact ⟨rfl, below_drewN (Below.refl _ _) _⟩
      · have d1 : (x == 0) = false := beq_eq_false_iff_ne.2 h1
        have d2 : decide ((P.orders.length : Int) < x) = false := decide_eq_false h2
        have d3 : decide (x < -(P.orders.length : Int)) = true := decide_eq_true h3
        go_wp2_with fail
        go_ret2
        exact ⟨rfl, below_drewN (Below.refl _ _) _⟩
    · have hgood := HGG.out (by omega)
      clear hc
      have hcase : x ≠ 0 ∧ ¬ (P.orders.length : Int) < x ∧ ¬ x < -(P.orders.length : Int) := by
        have hn : P.n = P.orders.length := rfl
        unfold goodL at hgood
        rw [hn] at hgood
        omega
      have d1 : (x == 0) = false := beq_eq_false_iff_ne.2 hcase.1
      have d2 : decide ((P.orders.length : Int) < x) = false := decide_eq_false hcase.2.1
      have d3 : decide (x < -(P.orders.length : Int)) = false := decide_eq_false hcase.2.2
      clear hgood hcase
      go_wp2_with fail
      go_roundw
      case rel => exact ⟨k + 1, by omega, by go_num, _, rfl⟩
      case measure => simp [intOf]; omega

set_option maxRecDepth 100000 in
set_option maxHeartbeats 2000000 in
theorem evalRef_good {P : PcD} (hv : Valid P) (w : World) (bh : Nat) (hg : RGrpAt w bh P) (s1 : Value) (ws : List Int) (h1 : IntsAt w s1 ws) (hl : ws.length ≤ 4000) (hgood : ∀ k, k < ws.length → goodL P (ws.getD k 0)) :
    Calls Try.prog 37 #[.pointer (some ⟨bh, 0, none⟩), s1] w (ListRet (evW P ws) w) := by
  obtain ⟨A, ca, rfl, ha1, ha2, ha⟩ := h1.open_
  have h12 : P.orders.length ≤ 12 := hv.n12
  have dl : decide ((4000 : Int) < (ws.length : Int)) = false := decide_eq_false (by omega)
  have HG := Lib.hid hg
  obtain ⟨A0, c0, A1, c1, A2, c2, hh, hP, hc0, hc1⟩ := hg.open_
  obtain ⟨k0, k1, k2⟩ := row80 hh
  have HP := Lib.hid hP.pcB
  have HPA := Lib.hid hP
  have HH := Lib.hid hh
  have HA := Lib.hid ha
  have HF := Lib.hid h1.2
  have HGD := Lib.hid hgood
  clear hg ha h1 hh hP hgood
  go_enter Try.func37, Try.ntmps37
  go_wp2_with fail
  go_loopw [7] (fun s wr => ∃ k : Nat, k ≤ ws.length ∧ s = .int .i64 k ∧ ∃ q, wr = w.drewN q) (fun s _ => ws.length - (intOf s).toNat)
  case atStart => exact ⟨0, Nat.zero_le _, rfl, 0, rfl⟩
  case round =>
    obtain ⟨k, hk, rfl, q, rfl⟩ := hrel
    have hk0 : (0 : Int) ≤ (k : Int) := Int.natCast_nonneg _
    by_cases hkl : k < ws.length
    · obtain ⟨b, off, rfl, hc⟩ := HA.out (by omega)
      have hck := hc k (by omega)
      have hk1 : (k : Int) < (ws.length : Int) := by omega
      have hgood := HGD.out k hkl
      have hxf := HF.out.at_ k
      generalize ws.getD k 0 = x at *
      clear hc
      have hcase : x ≠ 0 ∧ ¬ (P.orders.length : Int) < x ∧ ¬ x < -(P.orders.length : Int) := by
        have hn : P.n = P.orders.length := rfl
        unfold goodL at hgood
        rw [hn] at hgood
        omega
      have d1 : (x == 0) = false := beq_eq_false_iff_ne.2 hcase.1
      have d2 : decide ((P.orders.length : Int) < x) = false := decide_eq_false hcase.2.1
      have d3 : decide (x < -(P.orders.length : Int)) = false := decide_eq_false hcase.2.2
      clear hgood hcase
      go_wp2_with fail
      go_roundw
      case rel => exact ⟨k + 1, by omega, by go_num, _, rfl⟩
      case measure => simp [intOf]; omega
    · obtain rfl : k = ws.length := by omega
      have hmk := make22 (w.drewN q) P.orders.length (by omega)
      have hb1 : Below w.heap.size w (w.drewN q) := below_drewN (Below.refl _ _) q
      have HO : Hid (XsAt ((w.drewN q).alloc (.cells (Array.replicate P.orders.length (.int .i64 0)) 3)) w.heap.size (zV P)) := Lib.hid (xsAt_zero (w.drewN q) P.n)
      have HB : Hid (Below w.heap.size w ((w.drewN q).alloc (.cells (Array.replicate P.orders.length (.int .i64 0)) 3))) := Lib.hid (hb1.alloc (Nat.le_refl _) _)
      clear hb1
      go_wp2_with fail
      generalize (w.drewN q).alloc (.cells (Array.replicate P.orders.length (.int .i64 0)) 3) = W at *
      clear hmk
      go_loopw [9] (fun s wr => ∃ k : Nat, k ≤ ws.length ∧ s = .int .i64 k ∧ XsAt wr w.heap.size (evTo P ws k) ∧ Below w.heap.size w wr) (fun s _ => ws.length - (intOf s).toNat)
      case atStart => exact ⟨0, Nat.zero_le _, rfl, HO.out, HB.out⟩
      case round =>
        obtain ⟨k, hk, rfl, hY, hB⟩ := hrel
        have hk0 : (0 : Int) ≤ (k : Int) := Int.natCast_nonneg _
        have hnc := evTo_NV hv (ws := ws) k
        by_cases hkl : k < ws.length
        · obtain ⟨b, off, rfl, hc⟩ := HA.out (by omega)
          have HCK := Lib.hid (hc k (by omega))
          have hck := (KC.of_below hB).cell HCK.out
          have hk1 : (k : Int) < (ws.length : Int) := by omega
          have hgood := HGD.out k hkl
          have hxf := HF.out.at_ k
          have HE := Lib.hid (evTo_succ P ws k)
          generalize hcv : evTo P ws k = cv at *
          generalize ws.getD k 0 = x at *
          obtain ⟨hg1, hg2, hg3⟩ := hgood
          have hpn : P.n = P.orders.length := rfl
          have HS : Hid (∀ w' : World, Below w.heap.size w w' → (w'.cell? ⟨bh, 0, none⟩ = some (.slice A0 P.orders.length c0) ∧ w'.cell? ⟨bh, 1, none⟩ = some (.slice A1 P.powers.length c1) ∧ w'.cell? ⟨bh, 2, none⟩ = some (.slice A2 P.conj.length c2) ∧ w'.cell? ⟨b, off + k, none⟩ = some (.int .i64 x))) := Lib.hid (fun w' hb => ⟨(row80 (row80_below HH.out hb)).1, (row80 (row80_below HH.out hb)).2.1, (row80 (row80_below HH.out hb)).2.2, (KC.of_below hb).cell HCK.out⟩)
          have HW := Lib.hid hB.drew
          have HY := Lib.hid (hY.below (Below.refl wr.heap.size wr).drew)
          have HNC := Lib.hid hnc
          clear hc hY hnc hcv
          by_cases hpos : 0 < x
          · obtain ⟨i, hi⟩ : ∃ i : Nat, (i : Int) = x - 1 := ⟨(x - 1).toNat, by omega⟩
            have hin : i < P.n := by omega
            have d1 : decide (0 < x) = true := decide_eq_true hpos
            have HST : Hid (evTo P ws (k + 1) = timesF P P.n i cv) := Lib.hid (by rw [HE.out, show x = (i : Int) + 1 by omega, stepW_pos P i cv hin]; rfl)
            have hT := rtimes_ok hv P.n wr.drew w.heap.size w.heap.size P.n _ _ _ cv i (HP.out.below HW.out (Nat.le_refl _)) (Nat.le_refl _) HY.out (Nat.le_refl _) (Nat.le_trans hv.n12 (by decide)) HNC.out hin (Nat.le_add_left _ _)
            have hw : IntKind.i64.wrap (x - 1) = (i : Int) := by rw [IntWalk.i64_in _ (by omega)]; exact hi.symm
            rw [← hw] at hT
            have HT : Hid (Calls Try.prog 52 #[.agg #[.slice A0 P.orders.length c0, .slice A1 P.powers.length c1, .slice A2 P.conj.length c2], .slice (some ⟨w.heap.size, 0, none⟩) P.orders.length P.orders.length, .int .i64 (IntKind.i64.wrap (x - 1))] wr.drew (RTurned wr.drew w.heap.size (timesF P P.n i cv))) := Lib.hid hT
            have tok0 : True := trivial
            clear hT hi hin hg2 hg3 hpn hw
            go_wp2_with fail
            go_region_held3 (fun w' => w'.cell? ⟨bh, 0, none⟩ = some (.slice A0 P.orders.length c0) ∧ w'.cell? ⟨bh, 1, none⟩ = some (.slice A1 P.powers.length c1) ∧ w'.cell? ⟨bh, 2, none⟩ = some (.slice A2 P.conj.length c2) ∧ w'.cell? ⟨b, off + k, none⟩ = some (.int .i64 x)) (first | exact HS.out _ HW.out | exact HS.out _ hB)
              (first
              | (go_at_call 52; have _t := tok0; (refine HT.out.mono ?_); rintro e w6 ⟨rfl, hc6, hg6⟩; have HW := Lib.hid (HW.out.grown hg6 HW.out.size (fun k e => by cases e; exact Nat.le_refl _)); have HC6 := Lib.hid hc6; clear hc6 hg6 tok0 _t))
            clear HS
            go_wp2_with fail
            go_roundw
            case rel => exact ⟨k + 1, by omega, by go_num, by rw [HST.out]; exact HC6.out, HW.out⟩
            case measure => simp [intOf]; omega
          · obtain ⟨i, hi⟩ : ∃ i : Nat, (i : Int) = -x - 1 := ⟨(-x - 1).toNat, by omega⟩
            have hin : i < P.n := by omega
            have d1 : decide (0 < x) = false := decide_eq_false hpos
            have hu := uP_NV hv (i := i) (x := 1) (by omega) (fun h => by have := hv.ord2 i h; omega)
            have HST : Hid (evTo P ws (k + 1) = mulP P cv (invP P (uP P i 1))) := Lib.hid (by rw [HE.out, show x = -(i : Int) - 1 by omega, stepW_neg P i cv])
            have hT := unitRef_any hv wr.drew _ _ _ (HPA.out.below HW.out) i hin
            have hw : IntKind.i64.wrap (IntKind.i64.wrap (-x) - 1) = (i : Int) := by rw [IntWalk.i64_in (-x) (by omega), IntWalk.i64_in _ (by omega)]; exact hi.symm
            rw [← hw] at hT
            have HT := Lib.hid hT
            have HU := Lib.hid hu
            have HIN := Lib.hid (invP_NV hv hu)
            have tok0 : True := trivial
            clear hT hi hin hg2 hg3 hpn hw hu
            go_wp2_with fail
            go_region_held3 (fun w' => w'.cell? ⟨bh, 0, none⟩ = some (.slice A0 P.orders.length c0) ∧ w'.cell? ⟨bh, 1, none⟩ = some (.slice A1 P.powers.length c1) ∧ w'.cell? ⟨bh, 2, none⟩ = some (.slice A2 P.conj.length c2) ∧ w'.cell? ⟨b, off + k, none⟩ = some (.int .i64 x)) (first | exact HS.out _ HW.out | exact HS.out _ hB)
              (first
              | (go_at_call 50; have _t := tok0; (refine HT.out.mono ?_); rintro e w6 ⟨u6, rfl, ho6⟩; obtain ⟨b6, cap6, rfl, hi6, hb6⟩ := xsOut_intro hv HU.out ho6; have HW := Lib.hid (HW.out.trans (hb6.mono HW.out.size)); have HY := Lib.hid (HY.out.below hb6); have HI6 := Lib.hid hi6; clear ho6 hi6 hb6 tok0 _t)
              | (go_at_call 74; (refine (invRef_any hv _ bh (HG.out.below HW.out) _ (uP P i 1) HI6.out HU.out).mono ?_); rintro e w7 ⟨⟨u7, rfl, hi7⟩, hb7⟩; obtain ⟨A7, c7, rfl, -⟩ := hi7.open_; have HW := Lib.hid (HW.out.trans (hb7.mono HW.out.size)); have HY := Lib.hid (HY.out.below hb7); have HI7 := Lib.hid hi7; clear hi7 hb7)
              | (go_at_call 78; (refine (rby_ok hv P.n _ w.heap.size w.heap.size P.n _ _ _ _ cv (invP P (uP P i 1)) (HP.out.below HW.out (Nat.le_refl _)) (Nat.le_refl _) HY.out (Nat.le_refl _) (Nat.le_trans hv.n12 (by decide)) HNC.out HI7.out HIN.out.1 (Pc.NV.small hv HIN.out)).mono ?_); rintro e w8 ⟨rfl, hc8, hg8⟩; have HW := Lib.hid (HW.out.grown hg8 HW.out.size (fun k e => by cases e; exact Nat.le_refl _)); have HC8 := Lib.hid hc8; clear hc8 hg8))
            clear HS
            go_wp2_with fail
            go_roundw
            case rel => exact ⟨k + 1, by omega, by go_num, by rw [HST.out]; exact HC8.out, HW.out⟩
            case measure => simp [intOf]; omega
        · obtain rfl : k = ws.length := by omega
          have HYI := Lib.hid (hY.ints hnc.1 (Nat.le_refl _) (Nat.le_trans hv.n12 (by decide)) (Pc.NV.fits hv hnc))
          have HBB := Lib.hid hB
          clear hnc hY hB
          go_wp2_with fail
          go_ret2
          exact ⟨⟨_, rfl, HYI.out⟩, HBB.out⟩
end Go.Proofs
namespace Go.Proofs
open Go.RowKit Go.Proofs.Pc

set_option maxRecDepth 100000 in
set_option maxHeartbeats 1000000 in
theorem inv_bad {P : PcD} (hv : Valid P) (w : World) (bg br : Nat) (hg : Live w bg br) (hr : RulesAt w br P) (s1 : Value) (xs : List Int) (h1 : IntsAt w s1 xs) (hx : takeErr P xs ≠ 0) :
    Calls Try.prog 32 #[.pointer (some ⟨bg, 0, none⟩), s1] w fun e w' => e = .returned (.tuple #[.slice none 0 0, .int .i64 (takeErr P xs)]) ∧ Below w.heap.size w w' := by
  have HO := Lib.hid (take_live hv w bg br hg hr s1 xs h1)
  have d1 : (takeErr P xs != 0) = true := by simp [hx]
  have hst := @store_vec_new
  generalize takeErr P xs = t at *
  generalize takeVec P xs = vv at *
  clear hg hr h1 hx
  go_enter Try.func32, Try.ntmps32
  go_wp2_with (go_at_call 69; (refine HO.out.mono ?_); rintro e w1 ⟨rfl, hb1⟩; have HB := Lib.hid (hb1.alloc hb1.size (.cells (vec vv).toArray 82)); clear hb1)
  go_ret2
  exact ⟨rfl, HB.out⟩

set_option maxRecDepth 100000 in
set_option maxHeartbeats 1000000 in
theorem per_bad {P : PcD} (hv : Valid P) (w : World) (bg br : Nat) (hg : Live w bg br) (hr : RulesAt w br P) (s1 : Value) (xs : List Int) (h1 : IntsAt w s1 xs) (hx : takeErr P xs ≠ 0) :
    Calls Try.prog 40 #[.pointer (some ⟨bg, 0, none⟩), s1] w fun e w' => e = .returned (.tuple #[.int .i64 0, .int .i64 (takeErr P xs)]) ∧ Below w.heap.size w w' := by
  have HO := Lib.hid (take_live hv w bg br hg hr s1 xs h1)
  have d1 : (takeErr P xs != 0) = true := by simp [hx]
  have hst := @store_vec_new
  generalize takeErr P xs = t at *
  generalize takeVec P xs = vv at *
  clear hg hr h1 hx
  go_enter Try.func40, Try.ntmps40
  go_wp2_with (go_at_call 69; (refine HO.out.mono ?_); rintro e w1 ⟨rfl, hb1⟩; have HB := Lib.hid (hb1.alloc hb1.size (.cells (vec vv).toArray 82)); clear hb1)
  go_ret2
  exact ⟨rfl, HB.out⟩

set_option maxRecDepth 100000 in
set_option maxHeartbeats 1000000 in
theorem rank_bad {P : PcD} (hv : Valid P) (w : World) (bg br : Nat) (hg : Live w bg br) (hr : RulesAt w br P) (s1 : Value) (xs : List Int) (h1 : IntsAt w s1 xs) (hx : takeErr P xs ≠ 0) :
    Calls Try.prog 42 #[.pointer (some ⟨bg, 0, none⟩), s1] w fun e w' => e = .returned (.tuple #[.int .i64 0, .int .i64 (takeErr P xs)]) ∧ Below w.heap.size w w' := by
  have HO := Lib.hid (take_live hv w bg br hg hr s1 xs h1)
  have d1 : (takeErr P xs != 0) = true := by simp [hx]
  have hst := @store_vec_new
  generalize takeErr P xs = t at *
  generalize takeVec P xs = vv at *
  clear hg hr h1 hx
  go_enter Try.func42, Try.ntmps42
  go_wp2_with (go_at_call 69; (refine HO.out.mono ?_); rintro e w1 ⟨rfl, hb1⟩; have HB := Lib.hid (hb1.alloc hb1.size (.cells (vec vv).toArray 82)); clear hb1)
  go_ret2
  exact ⟨rfl, HB.out⟩

set_option maxRecDepth 100000 in
set_option maxHeartbeats 1000000 in
theorem pow_bad {P : PcD} (hv : Valid P) (w : World) (bg br : Nat) (hg : Live w bg br) (hr : RulesAt w br P) (s1 : Value) (xs : List Int) (n : Int) (h1 : IntsAt w s1 xs) (hx : takeErr P xs ≠ 0) :
    Calls Try.prog 34 #[.pointer (some ⟨bg, 0, none⟩), s1, .int .i64 n] w fun e w' => e = .returned (.tuple #[.slice none 0 0, .int .i64 (takeErr P xs)]) ∧ Below w.heap.size w w' := by
  have HO := Lib.hid (take_live hv w bg br hg hr s1 xs h1)
  have d1 : (takeErr P xs != 0) = true := by simp [hx]
  have hst := @store_vec_new
  generalize takeErr P xs = t at *
  generalize takeVec P xs = vv at *
  clear hg hr h1 hx
  go_enter Try.func34, Try.ntmps34
  go_wp2_with (go_at_call 69; (refine HO.out.mono ?_); rintro e w1 ⟨rfl, hb1⟩; have HB := Lib.hid (hb1.alloc hb1.size (.cells (vec vv).toArray 82)); clear hb1)
  go_ret2
  exact ⟨rfl, HB.out⟩

set_option maxRecDepth 100000 in
set_option maxHeartbeats 1000000 in
theorem mul_bad {P : PcD} (hv : Valid P) (w : World) (bg br : Nat) (hg : Live w bg br) (hr : RulesAt w br P) (s1 s2 : Value) (xs ys : List Int) (h1 : IntsAt w s1 xs) (h2 : IntsAt w s2 ys) (hx : mulErr P xs ys ≠ 0) :
    Calls Try.prog 29 #[.pointer (some ⟨bg, 0, none⟩), s1, s2] w fun e w' => e = .returned (.tuple #[.slice none 0 0, .int .i64 (mulErr P xs ys)]) ∧ Below w.heap.size w w' := by
  have HO := Lib.hid (take_live hv w bg br hg hr s1 xs h1)
  have hst := @store_vec_new
  by_cases h0 : takeErr P xs = 0
  · have hm : mulErr P xs ys = takeErr P ys := by unfold mulErr; rw [if_pos h0]
    rw [hm] at hx ⊢
    rw [h0] at HO
    have d1 : (takeErr P ys != 0) = true := by simp [hx]
    have HG := Lib.hid hg
    have HR := Lib.hid hr
    have H2 := Lib.hid h2
    have HT := Lib.hid (fun (w' : World) hg hr h => take_live hv w' bg br hg hr s2 ys h)
    generalize takeErr P ys = t at *
    generalize takeVec P ys = vv at *
    generalize takeVec P xs = vu at *
    have tok0 : True := trivial
    clear hg hr h1 h2 hx h0 hm
    go_enter Try.func29, Try.ntmps29
    go_wp2_with (first
      | (go_at_call 69; have _t := tok0; (refine HO.out.mono ?_); rintro e w1 ⟨rfl, hb1⟩; have HB := Lib.hid (hb1.alloc hb1.size (.cells (vec vu).toArray 82)); clear hb1 tok0 _t)
      | (go_at_call 69; (refine (HT.out _ ((KC.of_below HB.out).cell HG.out) ((KC.of_below HB.out).rules HR.out) (H2.out.below HB.out)).mono ?_); rintro e w2 ⟨rfl, hb2⟩; have HB := Lib.hid ((HB.out.trans (hb2.mono HB.out.size)).alloc (HB.out.trans (hb2.mono HB.out.size)).size (.cells (vec vv).toArray 82)); clear hb2))
    go_ret2
    exact ⟨rfl, HB.out⟩
  · have hm : mulErr P xs ys = takeErr P xs := by unfold mulErr; rw [if_neg h0]
    rw [hm]
    have d1 : (takeErr P xs != 0) = true := by simp [h0]
    generalize takeErr P xs = t at *
    generalize takeVec P xs = vv at *
    clear hg hr h1 h2 hx h0 hm
    go_enter Try.func29, Try.ntmps29
    go_wp2_with (go_at_call 69; (refine HO.out.mono ?_); rintro e w1 ⟨rfl, hb1⟩; have HB := Lib.hid (hb1.alloc hb1.size (.cells (vec vv).toArray 82)); clear hb1)
    go_ret2
    exact ⟨rfl, HB.out⟩
end Go.Proofs
