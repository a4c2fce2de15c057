/- The reference's clear; The reference's spread. -/
import Derived.Test.YthfachbkcmifbaaGreatGrCS10
import Derived.Test.YthfachbkcmifbaaGreatGrCS5
import Derived.Test.YthfachbkcmifbaaGreatGrCS6
namespace Go.Proofs
open Go.RowKit Go.Shelf Go.Proofs.Sm
/-- what clearing comes to, where nothing was too great ahead of the columns -/
def ClearYes (b base r n : Nat) (s2 : S) (w : World) (e : Ending) (w' : World) : Prop := e = .returned (.bool (!(s2.restR r || s2.restC n))) ∧ Wk 86 b base w' s2 (.bool (!s2.fine)) ∧ Chb b base w w'
section
variable {base b r n : Nat} {w : World} {s : S} (hr : r ≤ 100000) (hn : n ≤ 100000) (hS : Wk 86 b base w s (.bool false)) (hbw : base ≤ w.heap.size)
include hr hn hS hbw
set_option maxRecDepth 100000 in
set_option maxHeartbeats 2000000 in
theorem clear58_no (hp : Piv r n s) (hf : (s.down r).fine = false) : Calls Tryz.prog 78 #[.pointer (some ⟨b, 0, none⟩), .int .i64 (s.t : Int), .bool true] w fun e w' => e = .returned (.bool false) ∧ Wk 86 b base w' (s.down r) (.bool true) ∧ Chb b base w w' := by
  obtain ⟨t, hst⟩ : ∃ t, t = s.t := ⟨_, rfl⟩
  have ht := hp.ltr
  have htn := hp.ltn
  rw [← hst] at ht htn ⊢
  have HT := Lib.hid hst
  clear hst
  have HS := Lib.hid hS
  have HP := Lib.hid hp
  clear hS hp
  have ht0 : (0 : Int) ≤ (t : Int) := Int.natCast_nonneg _
  have htr : (t : Int) < (r : Int) := by omega
  have htn' : (t : Int) < (n : Int) := by omega
  have hrb : (r : Int) ≤ 100000 := by omega
  have hnb : (n : Int) ≤ 100000 := by omega
  have hwt : IntKind.i64.wrap ((t : Int) + 1) = (t : Int) + 1 := IntWalk.i64_in _ (by omega)
  go_enter Tryz.func78, Tryz.ntmps78
  go_wp2_with fail
  go_loopw [7] (fun z wr => ∃ i : Nat, t + 1 ≤ i ∧ i ≤ r ∧ z = .int .i64 i ∧ Hid (Wk 86 b base wr (upto S.dn s (t + 1) i) (.bool false) ∧ Chb b base w wr)) (fun z _ => r - (intOf z).toNat)
  case atStart => exact ⟨t + 1, by omega, by omega, by go_num, Lib.hid ⟨by rw [upto_self]; exact HS.out, Chb.refl _ _ _⟩⟩
  case round =>
    obtain ⟨i, hi1, hi2, rfl, HQ⟩ := hrel
    have hi0 : (0 : Int) ≤ (i : Int) := Int.natCast_nonneg _
    have HSH : Hid (Shape r n (upto S.dn s (t + 1) i)) := Lib.hid (by rw [HT.out]; rw [HT.out] at hi1; exact (dn_upto HP.out.sh HP.out.ltr i hi1 hi2).sh)
    obtain ⟨g, d, bt, ct, k1, k2, k3, k4, k5, k6, k7, k8⟩ := HQ.out.1.look HSH.out ht htn
    have hk5 : (n : Int) ≤ (ct : Int) := by omega
    by_cases hlt : i < r
    · have hlt' : (i : Int) < (r : Int) := by omega
      obtain ⟨RS, Re1, Re2, Re3, Rf1, Rf2, Rz, Rt⟩ := dn_round HP.out (i := i) (by rw [← HT.out]; exact hi1) hlt
      rw [← HT.out] at RS Re1 Re2 Re3 Rf1 Rf2 Rz Rt
      have hpiv := HP.out.piv
      have hbt := HP.out.toBase.bda i t
      rw [← HT.out] at hpiv
      have HQDEF : Hid (qR s i = (ent s.a i t).tdiv (ent s.a t t)) := Lib.hid (by unfold qR; rw [← HT.out])
      have hq1 := (tdiv_small (y := ent s.a t t) hbt).1
      have hq2 := (tdiv_small (y := ent s.a t t) hbt).2
      obtain ⟨g2, d2, bi, ci, p1, -, p3, p4, p5, p6, -, -⟩ := HQ.out.1.look HSH.out hlt htn
      rw [k1] at p1
      obtain rfl : g = g2 := by injection p1 with e1; injection e1 with e2; injection e2 with e3; injection e3
      clear p1
      have hp5 : (n : Int) ≤ (ci : Int) := by omega
      have hti : t ≠ i := by omega
      have HADD : Hid (∀ V, Below wr.heap.size wr V → Calls Tryz.prog 89 #[.pointer (some ⟨b, 0, none⟩), .int .i64 (i : Int), .int .i64 (t : Int), .int .i64 (-(ent s.a i t).tdiv (ent s.a t t))] V fun e w' => e = .returned (.tuple #[]) ∧ Hid (Wk 86 b base w' (upto S.dn s (t + 1) (i + 1)) (.bool false) ∧ Chb b base w w')) := Lib.hid fun V hV => by
        have h := rows75_any base b i t r n (-qR s i) V (upto S.dn s (t + 1) i) (.bool false) RS hlt ht (by omega) (by omega) (HQ.out.1.below hV) (Nat.le_trans hbw (Nat.le_trans HQ.out.2.size hV.size)) Rf1 Rf2
        rw [HQDEF.out] at h Re3
        rw [← Re3] at h
        exact h.mono fun e w' ⟨h1, h2, h3⟩ => ⟨h1, Lib.hid ⟨h2, HQ.out.2.trans ((Chb.of_below HQ.out.1 (Nat.le_trans hbw HQ.out.2.size) hV).trans h3)⟩⟩
      rw [Re1] at p4
      rw [Re2] at k4
      clear RS Re1 Re2 Re3 Rf1 Rf2 Rz Rt k2
      generalize ent s.a i t = x at *
      generalize ent s.a t t = y at *
      have hw1 : IntKind.i64.wrap (x.tdiv y) = x.tdiv y := IntWalk.i64_in _ (by omega)
      have hw2 : IntKind.i64.wrap (-(x.tdiv y)) = -(x.tdiv y) := IntWalk.i64_in _ (by omega)
      have hy0 : (y == 0) = false := by simpa using hpiv
      have HBL := Lib.hid (below_drew (Below.refl wr.heap.size wr))
      clear hbt
      go_wp2_with fail
      go_still_tail 25, (by kernel_rfl)
      go_wp2_with (go_at_call 89; (with_reducible refine (HADD.out _ HBL.out).mono ?_); rintro e w6 ⟨rfl, HN⟩)
      go_roundw
      case rel => exact ⟨i + 1, by omega, by omega, by go_num, HN⟩
      case measure => simp [intOf]; omega
    · obtain rfl : r = i := by omega
      have HCK0 : Hid (Calls Tryz.prog 90 #[.pointer (some ⟨b, 0, none⟩)] wr fun e w' => e = .returned (.tuple #[]) ∧ Wk 86 b base w' (s.down r) (.bool (!(s.down r).fine)) ∧ Chb b base w w') := Lib.hid ((check76_any base b r n wr (s.down r) false (by have h := HSH.out; rw [HT.out] at h; exact h) hr hn (by have h := HQ.out.1; rw [HT.out] at h; exact h) (Nat.le_trans hbw HQ.out.2.size) (mid_down HP.out)).mono fun e w' ⟨h1, h2, h3⟩ => ⟨h1, by rw [Bool.false_or] at h2; exact h2, HQ.out.2.trans h3⟩)
      rw [hf] at HCK0
      clear k2 k3 k4 k5 k6 hk5
      go_wp2_with (go_at_call 90; (refine HCK0.out.mono ?_); rintro e w5 ⟨rfl, h1, h2⟩; have HW5 := Lib.hid h1; have HCH5 := Lib.hid h2; have hc3 := h1.cell3.1; clear h1 h2)
      go_ret
      exact ⟨rfl, HW5.out, HCH5.out⟩
set_option maxRecDepth 100000 in
set_option maxHeartbeats 4000000 in
theorem clear58_yes (hp : Piv r n s) (hf : (s.down r).fine = true) : Calls Tryz.prog 78 #[.pointer (some ⟨b, 0, none⟩), .int .i64 (s.t : Int), .bool true] w (ClearYes b base r n ((s.down r).across n) w) := by
  obtain ⟨t, hst⟩ : ∃ t, t = s.t := ⟨_, rfl⟩
  have ht := hp.ltr
  have htn := hp.ltn
  rw [← hst] at ht htn ⊢
  have HT := Lib.hid hst
  clear hst
  have HS := Lib.hid hS
  have HP := Lib.hid hp
  clear hS hp
  have ht0 : (0 : Int) ≤ (t : Int) := Int.natCast_nonneg _
  have htr : (t : Int) < (r : Int) := by omega
  have htn' : (t : Int) < (n : Int) := by omega
  have hrb : (r : Int) ≤ 100000 := by omega
  have hnb : (n : Int) ≤ 100000 := by omega
  have hwt : IntKind.i64.wrap ((t : Int) + 1) = (t : Int) + 1 := IntWalk.i64_in _ (by omega)
  go_enter Tryz.func78, Tryz.ntmps78
  go_wp2_with fail
  go_loopw [7] (fun z wr => ∃ i : Nat, t + 1 ≤ i ∧ i ≤ r ∧ z = .int .i64 i ∧ Hid (Wk 86 b base wr (upto S.dn s (t + 1) i) (.bool false) ∧ Chb b base w wr)) (fun z _ => r - (intOf z).toNat)
  case atStart => exact ⟨t + 1, by omega, by omega, by go_num, Lib.hid ⟨by rw [upto_self]; exact HS.out, Chb.refl _ _ _⟩⟩
  case round =>
    obtain ⟨i, hi1, hi2, rfl, HQ⟩ := hrel
    have hi0 : (0 : Int) ≤ (i : Int) := Int.natCast_nonneg _
    have HSH : Hid (Shape r n (upto S.dn s (t + 1) i)) := Lib.hid (by rw [HT.out]; rw [HT.out] at hi1; exact (dn_upto HP.out.sh HP.out.ltr i hi1 hi2).sh)
    obtain ⟨g, d, bt, ct, k1, k2, k3, k4, k5, k6, k7, k8⟩ := HQ.out.1.look HSH.out ht htn
    have hk5 : (n : Int) ≤ (ct : Int) := by omega
    by_cases hlt : i < r
    · have hlt' : (i : Int) < (r : Int) := by omega
      obtain ⟨RS, Re1, Re2, Re3, Rf1, Rf2, Rz, Rt⟩ := dn_round HP.out (i := i) (by rw [← HT.out]; exact hi1) hlt
      rw [← HT.out] at RS Re1 Re2 Re3 Rf1 Rf2 Rz Rt
      have hpiv := HP.out.piv
      have hbt := HP.out.toBase.bda i t
      rw [← HT.out] at hpiv
      have HQDEF : Hid (qR s i = (ent s.a i t).tdiv (ent s.a t t)) := Lib.hid (by unfold qR; rw [← HT.out])
      have hq1 := (tdiv_small (y := ent s.a t t) hbt).1
      have hq2 := (tdiv_small (y := ent s.a t t) hbt).2
      obtain ⟨g2, d2, bi, ci, p1, -, p3, p4, p5, p6, -, -⟩ := HQ.out.1.look HSH.out hlt htn
      rw [k1] at p1
      obtain rfl : g = g2 := by injection p1 with e1; injection e1 with e2; injection e2 with e3; injection e3
      clear p1
      have hp5 : (n : Int) ≤ (ci : Int) := by omega
      have hti : t ≠ i := by omega
      have HADD : Hid (∀ V, Below wr.heap.size wr V → Calls Tryz.prog 89 #[.pointer (some ⟨b, 0, none⟩), .int .i64 (i : Int), .int .i64 (t : Int), .int .i64 (-(ent s.a i t).tdiv (ent s.a t t))] V fun e w' => e = .returned (.tuple #[]) ∧ Hid (Wk 86 b base w' (upto S.dn s (t + 1) (i + 1)) (.bool false) ∧ Chb b base w w')) := Lib.hid fun V hV => by
        have h := rows75_any base b i t r n (-qR s i) V (upto S.dn s (t + 1) i) (.bool false) RS hlt ht (by omega) (by omega) (HQ.out.1.below hV) (Nat.le_trans hbw (Nat.le_trans HQ.out.2.size hV.size)) Rf1 Rf2
        rw [HQDEF.out] at h Re3
        rw [← Re3] at h
        exact h.mono fun e w' ⟨h1, h2, h3⟩ => ⟨h1, Lib.hid ⟨h2, HQ.out.2.trans ((Chb.of_below HQ.out.1 (Nat.le_trans hbw HQ.out.2.size) hV).trans h3)⟩⟩
      rw [Re1] at p4
      rw [Re2] at k4
      clear RS Re1 Re2 Re3 Rf1 Rf2 Rz Rt k2
      generalize ent s.a i t = x at *
      generalize ent s.a t t = y at *
      have hw1 : IntKind.i64.wrap (x.tdiv y) = x.tdiv y := IntWalk.i64_in _ (by omega)
      have hw2 : IntKind.i64.wrap (-(x.tdiv y)) = -(x.tdiv y) := IntWalk.i64_in _ (by omega)
      have hy0 : (y == 0) = false := by simpa using hpiv
      have HBL := Lib.hid (below_drew (Below.refl wr.heap.size wr))
      clear hbt
      go_wp2_with fail
      go_still_tail 25, (by kernel_rfl)
      go_wp2_with (go_at_call 89; (with_reducible refine (HADD.out _ HBL.out).mono ?_); rintro e w6 ⟨rfl, HN⟩)
      go_roundw
      case rel => exact ⟨i + 1, by omega, by omega, by go_num, HN⟩
      case measure => simp [intOf]; omega
    · obtain rfl : r = i := by omega
      have HCK0 : Hid (Calls Tryz.prog 90 #[.pointer (some ⟨b, 0, none⟩)] wr fun e w' => e = .returned (.tuple #[]) ∧ Wk 86 b base w' (s.down r) (.bool (!(s.down r).fine)) ∧ Chb b base w w') := Lib.hid ((check76_any base b r n wr (s.down r) false (by have h := HSH.out; rw [HT.out] at h; exact h) hr hn (by have h := HQ.out.1; rw [HT.out] at h; exact h) (Nat.le_trans hbw HQ.out.2.size) (mid_down HP.out)).mono fun e w' ⟨h1, h2, h3⟩ => ⟨h1, by rw [Bool.false_or] at h2; exact h2, HQ.out.2.trans h3⟩)
      rw [hf] at HCK0
      clear k2 k3 k4 k5 k6 hk5
      obtain ⟨sA, hsA⟩ : ∃ sA, sA = s.down r := ⟨_, rfl⟩
      have hpd := pi_down HP.out hf
      rw [← hsA] at HCK0 hpd
      have HSA := Lib.hid hsA
      have HTA : Hid (t = sA.t) := Lib.hid (by rw [hpd.2.1]; exact HT.out)
      have HPA : Hid (Acr r n sA) := Lib.hid hpd.1
      clear hpd hsA hf HSH HQ HS HP
      go_wp2_with (go_at_call 90; (refine HCK0.out.mono ?_); rintro e w5 ⟨rfl, h1, h2⟩; have HA := Lib.hid (And.intro h1 h2); have hc3 := h1.cell3.1; clear h1 h2)
      clear hc3 HCK0 k1 k7 k8
      go_loopw [8] (fun z wr => ∃ j : Nat, t + 1 ≤ j ∧ j ≤ n ∧ z = .int .i64 j ∧ Hid (Wk 86 b base wr (upto S.ac sA (t + 1) j) (.bool false) ∧ Chb b base w wr)) (fun z _ => n - (intOf z).toNat)
      case atStart => exact ⟨t + 1, by omega, by omega, by go_num, Lib.hid ⟨by rw [upto_self]; exact HA.out.1, HA.out.2⟩⟩
      case round =>
        obtain ⟨j, hj1, hj2, rfl, HQ⟩ := hrel
        have hj0 : (0 : Int) ≤ (j : Int) := Int.natCast_nonneg _
        have HSH : Hid (Shape r n (upto S.ac sA (t + 1) j)) := Lib.hid (by rw [HTA.out]; rw [HTA.out] at hj1; exact (ac_upto HPA.out.sh HPA.out.ltn j hj1 hj2).sh)
        obtain ⟨g, d, bt, ct, k1, k2, k3, k4, k5, k6, k7, k8⟩ := HQ.out.1.look HSH.out ht htn
        have hk5 : (n : Int) ≤ (ct : Int) := by omega
        by_cases hlt : j < n
        · have hlt' : (j : Int) < (n : Int) := by omega
          obtain ⟨RS, Re1, Re2, Re3, Rf1, Rf2, Rz, Rt⟩ := ac_round HPA.out (j := j) (by rw [← HTA.out]; exact hj1) hlt
          rw [← HTA.out] at RS Re1 Re2 Re3 Rf1 Rf2 Rz Rt
          have hpiv := HPA.out.piv
          have hbt := HPA.out.toBase.bda t j
          rw [← HTA.out] at hpiv
          have HQDEF : Hid (qC sA j = (ent sA.a t j).tdiv (ent sA.a t t)) := Lib.hid (by unfold qC; rw [← HTA.out])
          have hq1 := (tdiv_small (y := ent sA.a t t) hbt).1
          have hq2 := (tdiv_small (y := ent sA.a t t) hbt).2
          obtain ⟨g2, d2, bt2, ct2, p1, -, p3, p4, -, -, -, -⟩ := HQ.out.1.look HSH.out ht hlt
          rw [k1] at p1
          obtain rfl : g = g2 := by injection p1 with e1; injection e1 with e2; injection e2 with e3; injection e3
          rw [k3] at p3
          obtain rfl : bt = bt2 := by injection p3 with e1; injection e1 with e2; injection e2 with e3; injection e3
          clear p1 p3
          have HADD : Hid (∀ V, Below wr.heap.size wr V → Calls Tryz.prog 91 #[.pointer (some ⟨b, 0, none⟩), .int .i64 (j : Int), .int .i64 (t : Int), .int .i64 (-(ent sA.a t j).tdiv (ent sA.a t t))] V fun e w' => e = .returned (.tuple #[]) ∧ Hid (Wk 86 b base w' (upto S.ac sA (t + 1) (j + 1)) (.bool false) ∧ Chb b base w w')) := Lib.hid fun V hV => by
            have h := columns77_any base b j t r n (-qC sA j) V (upto S.ac sA (t + 1) j) (.bool false) RS hlt htn hr hn (HQ.out.1.below hV) Rf1 Rf2
            rw [HQDEF.out] at h Re3
            rw [← Re3] at h
            exact h.mono fun e w' ⟨h1, h2, h3⟩ => ⟨h1, Lib.hid ⟨h2, HQ.out.2.trans ((Chb.of_below HQ.out.1 (Nat.le_trans hbw HQ.out.2.size) hV).trans h3)⟩⟩
          rw [Re1] at p4
          rw [Re2] at k4
          clear RS Re1 Re2 Re3 Rf1 Rf2 Rz Rt k2
          generalize ent sA.a t j = x at *
          generalize ent sA.a t t = y at *
          have hw1 : IntKind.i64.wrap (x.tdiv y) = x.tdiv y := IntWalk.i64_in _ (by omega)
          have hw2 : IntKind.i64.wrap (-(x.tdiv y)) = -(x.tdiv y) := IntWalk.i64_in _ (by omega)
          have hy0 : (y == 0) = false := by simpa using hpiv
          have hbelow := below_drew (Below.refl wr.heap.size wr)
          have HBL := Lib.hid hbelow
          clear hbelow hbt
          go_wp2_with fail
          go_still_tail 25, (by kernel_rfl)
          go_wp2_with (go_at_call 91; (with_reducible refine (HADD.out _ HBL.out).mono ?_); rintro e w6 ⟨rfl, HN⟩)
          go_roundw
          case rel => exact ⟨j + 1, by omega, by omega, by go_num, HN⟩
          case measure => simp [intOf]; omega
        · obtain rfl : n = j := by omega
          have HCK : Hid (Calls Tryz.prog 90 #[.pointer (some ⟨b, 0, none⟩)] wr fun e w' => e = .returned (.tuple #[]) ∧ Wk 86 b base w' (sA.across n) (.bool (!(sA.across n).fine)) ∧ Chb b base w w') := Lib.hid ((check76_any base b r n wr (sA.across n) false (by have h := HSH.out; rw [HTA.out] at h; exact h) hr hn (by have h := HQ.out.1; rw [HTA.out] at h; exact h) (Nat.le_trans hbw HQ.out.2.size) (mid_across HPA.out)).mono fun e w' ⟨h1, h2, h3⟩ => ⟨h1, by rw [Bool.false_or] at h2; exact h2, HQ.out.2.trans h3⟩)
          clear k2 k4 k6 k8
          have HT2 : Hid ((sA.across n).t = t) := Lib.hid (by rw [(across_at HPA.out.toPiv).t, ← HTA.out])
          have HSH2 : Hid (Shape r n (sA.across n)) := Lib.hid (across_at HPA.out.toPiv).sh
          generalize hs2 : sA.across n = s2 at *
          have HE2 : Hid ((s.down r).across n = s2) := Lib.hid (by rw [← HSA.out]; exact hs2)
          have HR1 : Hid ((∃ i, t + 1 ≤ i ∧ i < r ∧ ent s2.a i t ≠ 0) → s2.restR r = true) := Lib.hid fun h => restR_iff.2 (by rw [HT2.out]; exact h)
          have HR0 : Hid ((∀ k, t + 1 ≤ k → k < r → ent s2.a k t = 0) → s2.restR r = false) := Lib.hid fun h => by
            cases hb : s2.restR r with
            | false => rfl
            | true => obtain ⟨i, a1, a2, a3⟩ := restR_iff.1 hb; rw [HT2.out] at a1 a3; exact absurd (h i a1 a2) a3
          have HC1 : Hid ((∃ i, t + 1 ≤ i ∧ i < n ∧ ent s2.a t i ≠ 0) → s2.restC n = true) := Lib.hid fun h => restC_iff.2 (by rw [HT2.out]; exact h)
          have HC0 : Hid ((∀ k, t + 1 ≤ k → k < n → ent s2.a t k = 0) → s2.restC n = false) := Lib.hid fun h => by
            cases hb : s2.restC n with
            | false => rfl
            | true => obtain ⟨i, a1, a2, a3⟩ := restC_iff.1 hb; rw [HT2.out] at a1 a3; exact absurd (h i a1 a2) a3
          clear hs2 HA HPA HQ HSH
          go_wp2_with (go_at_call 90; (refine HCK.out.mono ?_); rintro e w6 ⟨rfl, h1, h2⟩; have HW6 := Lib.hid h1; have HCH := Lib.hid h2; clear h1 h2)
          clear k1 k3 k5 k7 hk5
          obtain ⟨g, d, bt, ct, k1, -, k3, -, k5, k6, k7, k8⟩ := HW6.out.look HSH2.out ht htn
          have hk5 : (n : Int) ≤ (ct : Int) := by omega
          have HLOOK : Hid (∀ i j, i < r → j < n → ∃ bi ci, w6.cell? ⟨g, i, none⟩ = some (.slice (some ⟨bi, 0, none⟩) n ci) ∧ w6.cell? ⟨bi, j, none⟩ = some (.int .i64 (ent s2.a i j)) ∧ n ≤ ci ∧ ci ≤ 9223372036854775807) := Lib.hid fun i j hi hj => by
            obtain ⟨g2, d2, bi, ci, q1, -, q3, q4, q5, q6, -, -⟩ := HW6.out.look HSH2.out hi hj
            rw [k1] at q1
            have e : g = g2 := by injection q1 with e1; injection e1 with e2; injection e2 with e3; injection e3
            subst e
            exact ⟨bi, ci, q3, q4, q5, q6⟩
          have HROWT : Hid (∀ j, j < n → w6.cell? ⟨bt, j, none⟩ = some (.int .i64 (ent s2.a t j))) := Lib.hid fun j hj => by
            obtain ⟨bi2, ci2, p1, p2, -, -⟩ := HLOOK.out t j ht hj
            rw [k3] at p1
            have e : bt = bi2 := by injection p1 with e1; injection e1 with e2; injection e2 with e3; injection e3
            subst e
            exact p2
          clear HCK
          go_loopw [9] (fun z wr => ∃ i : Nat, t + 1 ≤ i ∧ i ≤ r ∧ z = .int .i64 i ∧ Hid (∀ k, t + 1 ≤ k → k < i → ent s2.a k t = 0) ∧ ∃ q, wr = w6.drewN q) (fun z _ => r - (intOf z).toNat)
          case atStart => exact ⟨t + 1, by omega, by omega, by go_num, Lib.hid (fun k h1 h2 => absurd h2 (by omega)), by first | exact ⟨0, rfl⟩ | exact ex_drewN⟩
          case round =>
            obtain ⟨i, hi1, hi2, rfl, HZ, q, rfl⟩ := hrel
            have hi0 : (0 : Int) ≤ (i : Int) := Int.natCast_nonneg _
            by_cases hil : i < r
            · have hil' : (i : Int) < (r : Int) := by omega
              obtain ⟨bi, ci, q1, q2, q3, q4⟩ := HLOOK.out i t hil htn
              have hq3 : (n : Int) ≤ (ci : Int) := by omega
              generalize hx : ent s2.a i t = x at *
              have HX := Lib.hid hx
              clear hx
              have hti : t ≠ i := by omega
              by_cases hx0 : x = 0
              · have hd1 : (x != 0) = false := by simpa using hx0
                have HN : Hid (∀ k, t + 1 ≤ k → k < i + 1 → ent s2.a k t = 0) := Lib.hid fun k h1 h2 => by
                  by_cases e : k = i
                  · rw [e, HX.out]; exact hx0
                  · exact HZ.out k h1 (by omega)
                go_wp2_with fail
                go_roundw
                case rel => exact ⟨i + 1, by omega, by omega, by go_num, HN, by first | exact ⟨_, rfl⟩ | exact ex_drewN⟩
                case measure => simp [intOf]; omega
              · have hd1 : (x != 0) = true := by simpa using hx0
                have HB : Hid (s2.restR r = true) := Lib.hid (HR1.out ⟨i, hi1, hil, by rw [HX.out]; exact hx0⟩)
                go_wp2_with fail
                go_ret
                exact ⟨by rw [HE2.out, HB.out]; rfl, by rw [HE2.out]; exact HW6.out.drewN _, HCH.out.drewN _⟩
            · obtain rfl : r = i := by omega
              have HB : Hid (s2.restR r = false) := Lib.hid (HR0.out HZ.out)
              go_wp2_with fail
              go_loopw [10] (fun z wr => ∃ j : Nat, t + 1 ≤ j ∧ j ≤ n ∧ z = .int .i64 j ∧ Hid (∀ k, t + 1 ≤ k → k < j → ent s2.a t k = 0) ∧ ∃ q, wr = w6.drewN q) (fun z _ => n - (intOf z).toNat)
              case atStart => exact ⟨t + 1, by omega, by omega, by go_num, Lib.hid (fun k h1 h2 => absurd h2 (by omega)), by first | exact ⟨_, rfl⟩ | exact ex_drewN⟩
              case round =>
                obtain ⟨j, hj1, hj2, rfl, HY, q', rfl⟩ := hrel
                have hj0 : (0 : Int) ≤ (j : Int) := Int.natCast_nonneg _
                by_cases hjl : j < n
                · have hjl' : (j : Int) < (n : Int) := by omega
                  have q2 := HROWT.out j hjl
                  generalize hx : ent s2.a t j = x at *
                  have HX := Lib.hid hx
                  clear hx
                  by_cases hx0 : x = 0
                  · have hd1 : (x != 0) = false := by simpa using hx0
                    have HN : Hid (∀ k, t + 1 ≤ k → k < j + 1 → ent s2.a t k = 0) := Lib.hid fun k h1 h2 => by
                      by_cases e : k = j
                      · rw [e, HX.out]; exact hx0
                      · exact HY.out k h1 (by omega)
                    go_wp2_with fail
                    go_roundw
                    case rel => exact ⟨j + 1, by omega, by omega, by go_num, HN, by first | exact ⟨_, rfl⟩ | exact ex_drewN⟩
                    case measure => simp [intOf]; omega
                  · have hd1 : (x != 0) = true := by simpa using hx0
                    have HB2 : Hid (s2.restC n = true) := Lib.hid (HC1.out ⟨j, hj1, hjl, by rw [HX.out]; exact hx0⟩)
                    go_wp2_with fail
                    go_ret
                    exact ⟨by rw [HE2.out, HB.out, HB2.out]; rfl, by rw [HE2.out]; exact HW6.out.drewN _, HCH.out.drewN _⟩
                · obtain rfl : n = j := by omega
                  have HB2 : Hid (s2.restC n = false) := Lib.hid (HC0.out HY.out)
                  go_wp2_with fail
                  go_ret
                  exact ⟨by rw [HE2.out, HB.out, HB2.out]; rfl, by rw [HE2.out]; exact HW6.out.drewN _, HCH.out.drewN _⟩
set_option maxRecDepth 100000 in
set_option maxHeartbeats 4000000 in
theorem clear58_across (hp : Acr r n s) : Calls Tryz.prog 78 #[.pointer (some ⟨b, 0, none⟩), .int .i64 (s.t : Int), .bool false] w (ClearYes b base r n (s.across n) w) := by
  obtain ⟨t, hst⟩ : ∃ t, t = s.t := ⟨_, rfl⟩
  have ht := hp.ltr
  have htn := hp.ltn
  rw [← hst] at ht htn ⊢
  have HT := Lib.hid hst
  clear hst
  have HS := Lib.hid hS
  have HP := Lib.hid hp
  clear hS hp
  have ht0 : (0 : Int) ≤ (t : Int) := Int.natCast_nonneg _
  have htr : (t : Int) < (r : Int) := by omega
  have htn' : (t : Int) < (n : Int) := by omega
  have hrb : (r : Int) ≤ 100000 := by omega
  have hnb : (n : Int) ≤ 100000 := by omega
  have hwt : IntKind.i64.wrap ((t : Int) + 1) = (t : Int) + 1 := IntWalk.i64_in _ (by omega)
  go_enter Tryz.func78, Tryz.ntmps78
  go_wp2_with fail
  go_loopw [7] (fun z wr => z = .int .i64 ((t : Int) + 1) ∧ ∃ q, wr = w.drewN q) (fun _ _ => 0)
  case atStart => exact ⟨by go_num, 0, rfl⟩
  case round =>
    obtain ⟨rfl, q, rfl⟩ := hrel
    obtain ⟨g, d, bt, ct, k1, k2, -, -, -, -, -, -⟩ := HS.out.look HP.out.sh ht htn
    obtain ⟨sA, hsA⟩ : ∃ sA, sA = s := ⟨_, rfl⟩
    have HTA : Hid (t = sA.t) := Lib.hid (by rw [hsA]; exact HT.out)
    have HPA : Hid (Acr r n sA) := Lib.hid (by rw [hsA]; exact HP.out)
    have HSA := Lib.hid hsA
    have hsplit : decide ((t : Int) + 1 < (r : Int)) = true ∨ decide ((t : Int) + 1 < (r : Int)) = false := by cases decide ((t : Int) + 1 < (r : Int)) <;> simp
    rcases hsplit with hd | hd
    all_goals
      have HA : Hid (Wk 86 b base (w.drewN q) sA (.bool false) ∧ Chb b base w (w.drewN q)) := Lib.hid ⟨by rw [hsA]; exact HS.out.drewN _, (Chb.refl _ _ _).drewN _⟩
      go_wp2_with fail
      clear k1 k2
      go_loopw [8] (fun z wr => ∃ j : Nat, t + 1 ≤ j ∧ j ≤ n ∧ z = .int .i64 j ∧ Hid (Wk 86 b base wr (upto S.ac sA (t + 1) j) (.bool false) ∧ Chb b base w wr)) (fun z _ => n - (intOf z).toNat)
      case atStart => exact ⟨t + 1, by omega, by omega, by go_num, Lib.hid ⟨by rw [upto_self]; exact HA.out.1, HA.out.2⟩⟩
      case round =>
        obtain ⟨j, hj1, hj2, rfl, HQ⟩ := hrel
        have hj0 : (0 : Int) ≤ (j : Int) := Int.natCast_nonneg _
        have HSH : Hid (Shape r n (upto S.ac sA (t + 1) j)) := Lib.hid (by rw [HTA.out]; rw [HTA.out] at hj1; exact (ac_upto HPA.out.sh HPA.out.ltn j hj1 hj2).sh)
        obtain ⟨g, d, bt, ct, k1, k2, k3, k4, k5, k6, k7, k8⟩ := HQ.out.1.look HSH.out ht htn
        have hk5 : (n : Int) ≤ (ct : Int) := by omega
        by_cases hlt : j < n
        · have hlt' : (j : Int) < (n : Int) := by omega
          obtain ⟨RS, Re1, Re2, Re3, Rf1, Rf2, Rz, Rt⟩ := ac_round HPA.out (j := j) (by rw [← HTA.out]; exact hj1) hlt
          rw [← HTA.out] at RS Re1 Re2 Re3 Rf1 Rf2 Rz Rt
          have hpiv := HPA.out.piv
          have hbt := HPA.out.toBase.bda t j
          rw [← HTA.out] at hpiv
          have HQDEF : Hid (qC sA j = (ent sA.a t j).tdiv (ent sA.a t t)) := Lib.hid (by unfold qC; rw [← HTA.out])
          have hq1 := (tdiv_small (y := ent sA.a t t) hbt).1
          have hq2 := (tdiv_small (y := ent sA.a t t) hbt).2
          obtain ⟨g2, d2, bt2, ct2, p1, -, p3, p4, -, -, -, -⟩ := HQ.out.1.look HSH.out ht hlt
          rw [k1] at p1
          obtain rfl : g = g2 := by injection p1 with e1; injection e1 with e2; injection e2 with e3; injection e3
          rw [k3] at p3
          obtain rfl : bt = bt2 := by injection p3 with e1; injection e1 with e2; injection e2 with e3; injection e3
          clear p1 p3
          have HADD : Hid (∀ V, Below wr.heap.size wr V → Calls Tryz.prog 91 #[.pointer (some ⟨b, 0, none⟩), .int .i64 (j : Int), .int .i64 (t : Int), .int .i64 (-(ent sA.a t j).tdiv (ent sA.a t t))] V fun e w' => e = .returned (.tuple #[]) ∧ Hid (Wk 86 b base w' (upto S.ac sA (t + 1) (j + 1)) (.bool false) ∧ Chb b base w w')) := Lib.hid fun V hV => by
            have h := columns77_any base b j t r n (-qC sA j) V (upto S.ac sA (t + 1) j) (.bool false) RS hlt htn hr hn (HQ.out.1.below hV) Rf1 Rf2
            rw [HQDEF.out] at h Re3
            rw [← Re3] at h
            exact h.mono fun e w' ⟨h1, h2, h3⟩ => ⟨h1, Lib.hid ⟨h2, HQ.out.2.trans ((Chb.of_below HQ.out.1 (Nat.le_trans hbw HQ.out.2.size) hV).trans h3)⟩⟩
          rw [Re1] at p4
          rw [Re2] at k4
          clear RS Re1 Re2 Re3 Rf1 Rf2 Rz Rt k2
          generalize ent sA.a t j = x at *
          generalize ent sA.a t t = y at *
          have hw1 : IntKind.i64.wrap (x.tdiv y) = x.tdiv y := IntWalk.i64_in _ (by omega)
          have hw2 : IntKind.i64.wrap (-(x.tdiv y)) = -(x.tdiv y) := IntWalk.i64_in _ (by omega)
          have hy0 : (y == 0) = false := by simpa using hpiv
          have hbelow := below_drew (Below.refl wr.heap.size wr)
          have HBL := Lib.hid hbelow
          clear hbelow hbt
          go_wp2_with fail
          go_still_tail 25, (by kernel_rfl)
          go_wp2_with (go_at_call 91; (with_reducible refine (HADD.out _ HBL.out).mono ?_); rintro e w6 ⟨rfl, HN⟩)
          go_roundw
          case rel => exact ⟨j + 1, by omega, by omega, by go_num, HN⟩
          case measure => simp [intOf]; omega
        · obtain rfl : n = j := by omega
          have HCK : Hid (Calls Tryz.prog 90 #[.pointer (some ⟨b, 0, none⟩)] wr fun e w' => e = .returned (.tuple #[]) ∧ Wk 86 b base w' (sA.across n) (.bool (!(sA.across n).fine)) ∧ Chb b base w w') := Lib.hid ((check76_any base b r n wr (sA.across n) false (by have h := HSH.out; rw [HTA.out] at h; exact h) hr hn (by have h := HQ.out.1; rw [HTA.out] at h; exact h) (Nat.le_trans hbw HQ.out.2.size) (mid_across HPA.out)).mono fun e w' ⟨h1, h2, h3⟩ => ⟨h1, by rw [Bool.false_or] at h2; exact h2, HQ.out.2.trans h3⟩)
          clear k2 k4 k6 k8
          have HT2 : Hid ((sA.across n).t = t) := Lib.hid (by rw [(across_at HPA.out.toPiv).t, ← HTA.out])
          have HSH2 : Hid (Shape r n (sA.across n)) := Lib.hid (across_at HPA.out.toPiv).sh
          generalize hs2 : sA.across n = s2 at *
          have HE2 : Hid (s.across n = s2) := Lib.hid (by rw [← HSA.out]; exact hs2)
          have HR1 : Hid ((∃ i, t + 1 ≤ i ∧ i < r ∧ ent s2.a i t ≠ 0) → s2.restR r = true) := Lib.hid fun h => restR_iff.2 (by rw [HT2.out]; exact h)
          have HR0 : Hid ((∀ k, t + 1 ≤ k → k < r → ent s2.a k t = 0) → s2.restR r = false) := Lib.hid fun h => by
            cases hb : s2.restR r with
            | false => rfl
            | true => obtain ⟨i, a1, a2, a3⟩ := restR_iff.1 hb; rw [HT2.out] at a1 a3; exact absurd (h i a1 a2) a3
          have HC1 : Hid ((∃ i, t + 1 ≤ i ∧ i < n ∧ ent s2.a t i ≠ 0) → s2.restC n = true) := Lib.hid fun h => restC_iff.2 (by rw [HT2.out]; exact h)
          have HC0 : Hid ((∀ k, t + 1 ≤ k → k < n → ent s2.a t k = 0) → s2.restC n = false) := Lib.hid fun h => by
            cases hb : s2.restC n with
            | false => rfl
            | true => obtain ⟨i, a1, a2, a3⟩ := restC_iff.1 hb; rw [HT2.out] at a1 a3; exact absurd (h i a1 a2) a3
          clear hs2 HA HPA HQ HSH
          go_wp2_with (go_at_call 90; (refine HCK.out.mono ?_); rintro e w6 ⟨rfl, h1, h2⟩; have HW6 := Lib.hid h1; have HCH := Lib.hid h2; clear h1 h2)
          clear k1 k3 k5 k7 hk5
          obtain ⟨g, d, bt, ct, k1, -, k3, -, k5, k6, k7, k8⟩ := HW6.out.look HSH2.out ht htn
          have hk5 : (n : Int) ≤ (ct : Int) := by omega
          have HLOOK : Hid (∀ i j, i < r → j < n → ∃ bi ci, w6.cell? ⟨g, i, none⟩ = some (.slice (some ⟨bi, 0, none⟩) n ci) ∧ w6.cell? ⟨bi, j, none⟩ = some (.int .i64 (ent s2.a i j)) ∧ n ≤ ci ∧ ci ≤ 9223372036854775807) := Lib.hid fun i j hi hj => by
            obtain ⟨g2, d2, bi, ci, q1, -, q3, q4, q5, q6, -, -⟩ := HW6.out.look HSH2.out hi hj
            rw [k1] at q1
            have e : g = g2 := by injection q1 with e1; injection e1 with e2; injection e2 with e3; injection e3
            subst e
            exact ⟨bi, ci, q3, q4, q5, q6⟩
          have HROWT : Hid (∀ j, j < n → w6.cell? ⟨bt, j, none⟩ = some (.int .i64 (ent s2.a t j))) := Lib.hid fun j hj => by
            obtain ⟨bi2, ci2, p1, p2, -, -⟩ := HLOOK.out t j ht hj
            rw [k3] at p1
            have e : bt = bi2 := by injection p1 with e1; injection e1 with e2; injection e2 with e3; injection e3
            subst e
            exact p2
          clear HCK
          go_loopw [9] (fun z wr => ∃ i : Nat, t + 1 ≤ i ∧ i ≤ r ∧ z = .int .i64 i ∧ Hid (∀ k, t + 1 ≤ k → k < i → ent s2.a k t = 0) ∧ ∃ q, wr = w6.drewN q) (fun z _ => r - (intOf z).toNat)
          case atStart => exact ⟨t + 1, by omega, by omega, by go_num, Lib.hid (fun k h1 h2 => absurd h2 (by omega)), by first | exact ⟨0, rfl⟩ | exact ex_drewN⟩
          case round =>
            obtain ⟨i, hi1, hi2, rfl, HZ, q, rfl⟩ := hrel
            have hi0 : (0 : Int) ≤ (i : Int) := Int.natCast_nonneg _
            by_cases hil : i < r
            · have hil' : (i : Int) < (r : Int) := by omega
              obtain ⟨bi, ci, q1, q2, q3, q4⟩ := HLOOK.out i t hil htn
              have hq3 : (n : Int) ≤ (ci : Int) := by omega
              generalize hx : ent s2.a i t = x at *
              have HX := Lib.hid hx
              clear hx
              have hti : t ≠ i := by omega
              by_cases hx0 : x = 0
              · have hd1 : (x != 0) = false := by simpa using hx0
                have HN : Hid (∀ k, t + 1 ≤ k → k < i + 1 → ent s2.a k t = 0) := Lib.hid fun k h1 h2 => by
                  by_cases e : k = i
                  · rw [e, HX.out]; exact hx0
                  · exact HZ.out k h1 (by omega)
                go_wp2_with fail
                go_roundw
                case rel => exact ⟨i + 1, by omega, by omega, by go_num, HN, by first | exact ⟨_, rfl⟩ | exact ex_drewN⟩
                case measure => simp [intOf]; omega
              · have hd1 : (x != 0) = true := by simpa using hx0
                have HB : Hid (s2.restR r = true) := Lib.hid (HR1.out ⟨i, hi1, hil, by rw [HX.out]; exact hx0⟩)
                go_wp2_with fail
                go_ret
                exact ⟨by rw [HE2.out, HB.out]; rfl, by rw [HE2.out]; exact HW6.out.drewN _, HCH.out.drewN _⟩
            · obtain rfl : r = i := by omega
              have HB : Hid (s2.restR r = false) := Lib.hid (HR0.out HZ.out)
              go_wp2_with fail
              go_loopw [10] (fun z wr => ∃ j : Nat, t + 1 ≤ j ∧ j ≤ n ∧ z = .int .i64 j ∧ Hid (∀ k, t + 1 ≤ k → k < j → ent s2.a t k = 0) ∧ ∃ q, wr = w6.drewN q) (fun z _ => n - (intOf z).toNat)
              case atStart => exact ⟨t + 1, by omega, by omega, by go_num, Lib.hid (fun k h1 h2 => absurd h2 (by omega)), by first | exact ⟨_, rfl⟩ | exact ex_drewN⟩
              case round =>
                obtain ⟨j, hj1, hj2, rfl, HY, q', rfl⟩ := hrel
                have hj0 : (0 : Int) ≤ (j : Int) := Int.natCast_nonneg _
                by_cases hjl : j < n
                · have hjl' : (j : Int) < (n : Int) := by omega
                  have q2 := HROWT.out j hjl
                  generalize hx : ent s2.a t j = x at *
                  have HX := Lib.hid hx
                  clear hx
                  by_cases hx0 : x = 0
                  · have hd1 : (x != 0) = false := by simpa using hx0
                    have HN : Hid (∀ k, t + 1 ≤ k → k < j + 1 → ent s2.a t k = 0) := Lib.hid fun k h1 h2 => by
                      by_cases e : k = j
                      · rw [e, HX.out]; exact hx0
                      · exact HY.out k h1 (by omega)
                    go_wp2_with fail
                    go_roundw
                    case rel => exact ⟨j + 1, by omega, by omega, by go_num, HN, by first | exact ⟨_, rfl⟩ | exact ex_drewN⟩
                    case measure => simp [intOf]; omega
                  · have hd1 : (x != 0) = true := by simpa using hx0
                    have HB2 : Hid (s2.restC n = true) := Lib.hid (HC1.out ⟨j, hj1, hjl, by rw [HX.out]; exact hx0⟩)
                    go_wp2_with fail
                    go_ret
                    exact ⟨by rw [HE2.out, HB.out, HB2.out]; rfl, by rw [HE2.out]; exact HW6.out.drewN _, HCH.out.drewN _⟩
                · obtain rfl : n = j := by omega
                  have HB2 : Hid (s2.restC n = false) := Lib.hid (HC0.out HY.out)
                  go_wp2_with fail
                  go_ret
                  exact ⟨by rw [HE2.out, HB.out, HB2.out]; rfl, by rw [HE2.out]; exact HW6.out.drewN _, HCH.out.drewN _⟩
end
end Go.Proofs
namespace Go.Proofs
open Go.RowKit Go.Shelf Go.Proofs.Sm
/-- what spreading comes to -/
def SpreadR (b base r n : Nat) (s : S) (w : World) (e : Ending) (w' : World) : Prop :=
  (s.spreadAt r n = none ∧ e = .returned (.bool false) ∧ Wk 86 b base w' s (.bool false) ∧ Chb b base w w') ∨
    ∃ i, s.spreadAt r n = some i ∧ e = .returned (.bool true) ∧ Wk 86 b base w' (s.addR s.t i 1) (.bool (!(s.addR s.t i 1).fine)) ∧ Chb b base w w'
set_option maxRecDepth 100000 in
set_option maxHeartbeats 2000000 in
theorem spread59_any (base b r n : Nat) (w : World) (s : S) (hr : r ≤ 100000) (hn : n ≤ 100000) (hS : Wk 86 b base w s (.bool false)) (hbw : base ≤ w.heap.size) (hp : Piv r n s) :
    Calls Tryz.prog 79 #[.pointer (some ⟨b, 0, none⟩), .int .i64 (s.t : Int)] w (SpreadR b base r n s w) := by
  obtain ⟨g, d, bt, ct, k1, k2, k3, k4, k5, k6, k7, k8⟩ := hS.look hp.sh hp.ltr hp.ltn
  have hbl : b < w.heap.size := World.block_lt_of_cell? w _ k1
  have ht := hp.ltr
  have htn := hp.ltn
  have HLOOK : Hid (∀ i j, i < r → j < n → ∃ bi ci, w.cell? ⟨g, i, none⟩ = some (.slice (some ⟨bi, 0, none⟩) n ci) ∧ w.cell? ⟨bi, j, none⟩ = some (.int .i64 (ent s.a i j)) ∧ n ≤ ci ∧ ci ≤ 9223372036854775807) := Lib.hid fun i j hi hj => by
    obtain ⟨g2, d2, bi, ci, q1, -, q3, q4, q5, q6, -, -⟩ := hS.look hp.sh hi hj
    rw [k1] at q1
    have e : g = g2 := by injection q1 with e1; injection e1 with e2; injection e2 with e3; injection e3
    subst e
    exact ⟨bi, ci, q3, q4, q5, q6⟩
  have HS := Lib.hid hS
  have HADD : Hid (∀ i, i < r → ∀ W, Below w.heap.size w W → Calls Tryz.prog 89 #[.pointer (some ⟨b, 0, none⟩), .int .i64 (s.t : Int), .int .i64 (i : Int), .int .i64 1] W fun e w' => e = .returned (.tuple #[]) ∧ Wk 86 b base w' (s.addR s.t i 1) (.bool false) ∧ Chb b base W w') := Lib.hid fun i hi W hb =>
    rows75_any base b s.t i r n 1 W s _ hp.sh ht hi (by omega) (by omega) (hS.below hb) (Nat.le_trans hbw hb.size) (fit_one hp.toBase.bda _ _) (fit_one hp.toBase.bdu _ _)
  have HCK : Hid (∀ i, i < r → ∀ W, base ≤ W.heap.size → Wk 86 b base W (s.addR s.t i 1) (.bool false) → Calls Tryz.prog 90 #[.pointer (some ⟨b, 0, none⟩)] W fun e w' => e = .returned (.tuple #[]) ∧ Wk 86 b base w' (s.addR s.t i 1) (.bool (!(s.addR s.t i 1).fine)) ∧ Chb b base W w') := Lib.hid fun i hi W hW h =>
    (check76_any base b r n W _ _ (hp.sh.addR hi 1) hr hn h hW (mid_one hp.toBase ht hi)).mono fun e w' ⟨h1, h2, h3⟩ => ⟨h1, by rw [Bool.false_or] at h2; exact h2, h3⟩
  have hpiv := hp.piv
  clear hS hp
  generalize hy : ent s.a s.t s.t = y at *
  have HY := Lib.hid hy
  obtain ⟨t, hst⟩ : ∃ t, t = s.t := ⟨_, rfl⟩
  rw [← hst] at k3 k4 ht htn HADD HCK ⊢
  have HT := Lib.hid hst
  clear hst hy k2
  have ht0 : (0 : Int) ≤ (t : Int) := Int.natCast_nonneg _
  have htr : (t : Int) < (r : Int) := by omega
  have htn' : (t : Int) < (n : Int) := by omega
  have htb : (t : Int) + 1 ≤ 100000 := by omega
  have hrb : (r : Int) ≤ 100000 := by omega
  have hnb : (n : Int) ≤ 100000 := by omega
  have hk5 : (n : Int) ≤ (ct : Int) := by omega
  have hyb : (y == 0) = false := by simpa using hpiv
  have hws : IntKind.i64.wrap ((t : Int) + 1) = (t : Int) + 1 := IntWalk.i64_in _ (by omega)
  go_enter Tryz.func79, Tryz.ntmps79
  go_wp2_with fail
  go_loopw [5] (fun z wr => ∃ i : Nat, t + 1 ≤ i ∧ i ≤ r ∧ z = .int .i64 i ∧ Hid (∀ k, t + 1 ≤ k → k < i → s.odd n k = false) ∧ ∃ q, wr = w.drewN q) (fun z _ => r - (intOf z).toNat)
  case atStart => exact ⟨t + 1, by omega, by omega, by go_num, Lib.hid (fun k h1 h2 => absurd h2 (by omega)), 0, rfl⟩
  case round =>
    obtain ⟨i, hi1, hi2, rfl, HZ, q, rfl⟩ := hrel
    have hi0 : (0 : Int) ≤ (i : Int) := Int.natCast_nonneg _
    by_cases hlt : i < r
    · have hlt' : (i : Int) < (r : Int) := by omega
      obtain ⟨bi, ci, q1, -, q3, q4⟩ := HLOOK.out i t hlt htn
      have hq3 : (n : Int) ≤ (ci : Int) := by omega
      have HINNER : Hid (∀ j, j < n → ∃ x, x = ent s.a i j ∧ w.cell? ⟨bi, j, none⟩ = some (.int .i64 x)) := Lib.hid fun j hj => by
        obtain ⟨bi2, ci2, p1, p2, -, -⟩ := HLOOK.out i j hlt hj
        rw [q1] at p1
        have e : bi = bi2 := by injection p1 with e1; injection e1 with e2; injection e2 with e3; injection e3
        subst e
        exact ⟨_, rfl, p2⟩
      have hti : t ≠ i := by omega
      go_wp2_with fail
      go_loopw [6] (fun z wr => ∃ j : Nat, t + 1 ≤ j ∧ j ≤ n ∧ z = .int .i64 j ∧ Hid (∀ k, t + 1 ≤ k → k < j → (ent s.a i k).tmod y = 0) ∧ ∃ q', wr = w.drewN q') (fun z _ => n - (intOf z).toNat)
      case atStart => exact ⟨t + 1, by omega, by omega, by go_num, Lib.hid (fun k h1 h2 => absurd h2 (by omega)), by first | exact ⟨_, rfl⟩ | exact ex_drewN⟩
      case round =>
        obtain ⟨j, hj1, hj2, rfl, HY2, q', rfl⟩ := hrel
        have hj0 : (0 : Int) ≤ (j : Int) := Int.natCast_nonneg _
        by_cases hjl : j < n
        · have hjl' : (j : Int) < (n : Int) := by omega
          obtain ⟨x, hx, hxc⟩ := HINNER.out j hjl
          have HX := Lib.hid hx
          clear hx
          by_cases hx0 : x.tmod y = 0
          · have hd1 : (x.tmod y != 0) = false := by simpa using hx0
            have HN : Hid (∀ k, t + 1 ≤ k → k < j + 1 → (ent s.a i k).tmod y = 0) := Lib.hid fun k h1 h2 => by
              by_cases e : k = j
              · rw [e, ← HX.out]; exact hx0
              · exact HY2.out k h1 (by omega)
            clear hx0
            go_wp2_with fail
            go_quiet (fail)
            go_wp2_with fail
            go_roundw
            case rel => exact ⟨j + 1, by omega, by omega, by go_num, HN, by first | exact ⟨_, rfl⟩ | exact ex_drewN⟩
            case measure => simp [intOf]; omega
          · have hd1 : (x.tmod y != 0) = true := by simpa using hx0
            have HSA : Hid (s.spreadAt r n = some i) := Lib.hid (by
              have hodd : s.odd n i = true := odd_iff.2 ⟨j, by rw [← HT.out]; exact hj1, hjl, by rw [← HX.out, HY.out]; exact hx0⟩
              unfold S.spreadAt
              rw [← HT.out]
              exact find_range hi1 hlt hodd HZ.out)
            have HA := Lib.hid (HADD.out i hlt)
            have HC := Lib.hid (HCK.out i hlt)
            have HK : Hid (∀ q, Below w.heap.size w (w.drewN q)) := Lib.hid fun q => below_drewN (Below.refl _ _) q
            clear hx0
            go_wp2_with fail
            go_quiet (fail)
            go_wp2_with (first
              | (go_at_call 89; (refine (HA.out _ (by first | exact HK.out _ | exact below_drewN (HK.out _) _)).mono ?_); rintro e w1 ⟨rfl, h1, h2⟩; have H1 := Lib.hid h1; have H2 := Lib.hid (((Chb.refl b base w).drewN _).trans h2); clear h1 h2)
              | (go_at_call 90; (refine (HC.out _ (Nat.le_trans hbw H2.out.size) H1.out).mono ?_); rintro e w2 ⟨rfl, h3, h4⟩; have H3 := Lib.hid h3; have H4 := Lib.hid (H2.out.trans h4); clear h3 h4))
            go_ret
            exact .inr ⟨i, HSA.out, rfl, by rw [← HT.out]; exact H3.out, H4.out⟩
        · obtain rfl : n = j := by omega
          have HZ2 : Hid (∀ k, t + 1 ≤ k → k < i + 1 → s.odd n k = false) := Lib.hid fun k h1 h2 => by
            by_cases e : k = i
            · subst e
              cases hb : s.odd n k with
              | false => rfl
              | true =>
                obtain ⟨j, a1, a2, a3⟩ := odd_iff.1 hb
                rw [← HT.out] at a1
                rw [HY.out] at a3
                exact absurd (HY2.out j a1 a2) a3
            · exact HZ.out k h1 (by omega)
          go_wp2_with fail
          go_roundw
          case rel => exact ⟨i + 1, by omega, by omega, by go_num, HZ2, by first | exact ⟨_, rfl⟩ | exact ex_drewN⟩
          case measure => simp [intOf]; omega
    · obtain rfl : r = i := by omega
      have HSA : Hid (s.spreadAt r n = none) := Lib.hid (by unfold S.spreadAt; rw [← HT.out]; exact find_none HZ.out)
      go_wp2_with fail
      go_ret
      exact .inl ⟨HSA.out, rfl, HS.out.drewN _, (Chb.refl b base w).drewN _⟩
end Go.Proofs
