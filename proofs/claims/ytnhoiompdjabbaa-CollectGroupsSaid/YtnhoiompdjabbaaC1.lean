/- The known groups; the law's element; The walk of CollectGroup. -/
import Derived.Test.YtnhoiompdjabbaaB5
import Derived.Test.YtnhoiompdjabbaaB3
namespace Go.Proofs
open Go.RowKit Go.Proofs.Pc

theorem known_ok : ∀ r, r < 12 → (checkD (knownD r)).1 = 0 ∧ consB (knownD r) = true := by decide +kernel
theorem takeErr_of_NV {P : PcD} {x : List Int} (h : NV P x) : takeErr P x = 0 := by
  unfold takeErr
  rw [if_pos h.1, if_pos]
  refine normalB_true fun k hk => ?_
  have := h.2 k (by rw [← h.1]; exact hk)
  refine (normAt_iff _ _ _ _).2 ⟨this.1, this.2, fun hh => absurd hh (by omega)⟩

set_option maxRecDepth 100000 in
set_option maxHeartbeats 1000000 in
theorem elem_any {P : PcD} (hv : Valid P) (hs : Small P) (w : World) (bg br : Nat) (hg : GrpAt w bg br P) (n : Int) (hn : -9223372036854775808 ≤ n ∧ n ≤ 9223372036854775807) :
    Calls Try.prog 44 #[.pointer (some ⟨bg, 0, none⟩), .int .i64 n] w fun e w' => ∃ A c, e = .returned (.tuple #[.slice A (elP P (n % prod P P.n)).length c, .bool true]) ∧ IntsAt w' (.slice A (elP P (n % prod P P.n)).length c) (elP P (n % prod P P.n)) ∧ Below w.heap.size w w' := by
  have hp := Pc.prod_pos hv P.n (Nat.le_refl _)
  have hp5 := hs P.n (Nat.le_refl _)
  have h6 := Int.emod_nonneg n (show prod P P.n ≠ 0 by omega)
  have h7 := Int.emod_lt_of_pos n (show 0 < prod P P.n by omega)
  have d1 : decide (prod P P.n < 1) = false := decide_eq_false (by omega)
  have HG := Lib.hid hg
  have HE := Lib.hid (element_live hv hs w bg br hg.live hg.rules (n % prod P P.n) h6 h7)
  have HO := Lib.hid (order_live' hv hs w bg br hg.live hg.rules)
  have HT := Lib.hid (turn_any w n (prod P P.n) (by omega) (by omega) hn)
  clear hg
  generalize prod P P.n = N at *
  go_enter Try.func44, Try.ntmps44
  go_wp2_with (first
    | (go_at_call 18; (refine HO.out.mono ?_); rintro e w' ⟨rfl, rfl⟩)
    | (go_at_call 46; (refine HT.out.mono ?_); rintro e w' ⟨rfl, rfl⟩)
    | (go_at_call 38; (refine HE.out.mono ?_); rintro e w2 ⟨⟨u, rfl, hu⟩, hb⟩; obtain ⟨A, c, rfl, -⟩ := hu.open_; have HU := Lib.hid hu; have HB := Lib.hid hb; clear hu hb))
  go_ret2
  exact ⟨A, c, rfl, HU.out, HB.out⟩

/-- what the laws know of a known group -/
structure KG (K : PcD) : Prop where
  he : (checkD K).1 = 0
  hv : Valid K
  hc : consB K = true
  hs : Small K
  hp : prod K K.n ≤ 50000
  hn : K.n ≤ 4
theorem kg_of {r : Nat} (hr : r < 12) : KG (knownD r) := by
  obtain ⟨h1, h2⟩ := known_ok r hr
  have hs := small_of_check h1
  have hn : ∀ r, r < 12 → (knownD r).n ≤ 4 := by decide +kernel
  exact ⟨h1, valid_of_check h1, h2, hs, (hs _ (Nat.le_refl _)).2, hn r hr⟩
end Go.Proofs
namespace Go.Proofs
open Go.RowKit Go.Proofs.Pc

/-- the power by the loop: after q rounds -/
def pwL (K : PcD) (X : V) (m : Int) (q : Nat) : V := if 0 < m then npow K X q else npow K (invP K X) q
theorem pwL_succ_pos {K : PcD} {X : V} {m : Int} (h : 0 < m) (q : Nat) : mulP K (pwL K X m q) X = pwL K X m (q + 1) := by unfold pwL; rw [if_pos h, if_pos h]; rfl
theorem pwL_succ_neg {K : PcD} {X : V} {m : Int} (h : ¬ 0 < m) (q : Nat) : mulP K (pwL K X m q) (invP K X) = pwL K X m (q + 1) := by unfold pwL; rw [if_neg h, if_neg h]; rfl
theorem pwL_NV {K : PcD} (hv : Valid K) {X : V} {m : Int} (q : Nat) : NV K (pwL K X m q) := by unfold pwL; split <;> exact npow_NV hv _
theorem pwL_end {K : PcD} (hv : Valid K) (hc : consB K = true) {X : V} (hX : NV K X) {m : Int} {k : Nat} (hk : IsPer K X k) : pwL K X m m.natAbs = npow K X (m % (k : Int)).toNat := by
  have hk0 := hk.pos
  unfold pwL
  by_cases h : 0 < m
  · rw [if_pos h, npow_mod hv hc hX hk.one]
    congr 1
    obtain ⟨q, rfl⟩ := Int.eq_ofNat_of_zero_le (show 0 ≤ m by omega)
    simp
    exact (Int.toNat_natCast _).symm
  · rw [if_neg h]
    obtain ⟨q, hq⟩ := Int.eq_ofNat_of_zero_le (show 0 ≤ -m by omega)
    obtain rfl : m = -(q : Int) := by omega
    rw [show (-(q : Int)).natAbs = q by omega]
    refine npow_neg hv hc hX hk.one ?_
    have h6 := Int.emod_nonneg (-(q : Int)) (show (k : Int) ≠ 0 by omega)
    have : (((q + (-(q : Int) % (k : Int)).toNat) % k : Nat) : Int) = 0 := by
      push_cast
      rw [Int.toNat_of_nonneg h6, Int.add_emod, Int.emod_emod, ← Int.add_emod, Int.add_right_neg]
      simp
    exact_mod_cast this

set_option maxRecDepth 100000 in
set_option maxHeartbeats 8000000 in
theorem grp_walk (w : World) (which a b c n : Int) (hw : -9223372036854775808 ≤ which ∧ which ≤ 9223372036854775807) (ha : -9223372036854775808 ≤ a ∧ a ≤ 9223372036854775807) (hb_ : -9223372036854775808 ≤ b ∧ b ≤ 9223372036854775807) (hc_ : -9223372036854775808 ≤ c ∧ c ≤ 9223372036854775807) :
    Calls Try.prog 8 #[.int .i64 which, .int .i64 a, .int .i64 b, .int .i64 c, .int .i64 n] w fun e w' => e = .returned (.bool true) ∧ Below w.heap.size w w' := by
  obtain ⟨K, hK⟩ : ∃ K, K = knownD (which % 12).toNat := ⟨_, rfl⟩
  have kg : KG K := by rw [hK]; exact kg_of (by omega)
  have HKN := Lib.hid (known_any)
  have HKE := Lib.hid hK
  obtain ⟨he, hv, hc, hs, hp5, hn4⟩ := kg
  have HE := Lib.hid he; have HC := Lib.hid hc; have HS := Lib.hid hs
  have hlen : K.orders.length ≤ 4 := hn4
  clear hK he hc hs
  go_enter Try.func8, Try.ntmps8
  go_wp2_with fail
  refine (kn_walk _).mono ?_
  rintro e w1 ⟨rfl, hb⟩
  have HB := Lib.hid hb; clear hb
  go_wp2_with fail
  refine (known_any _ which hw).mono ?_
  rw [← HKE.out]
  rintro e w2 ⟨⟨u0, u1, u2, rfl, hp⟩, hb⟩
  obtain ⟨⟨B0, d0, rfl⟩, ⟨B1, d1, rfl⟩, B2, d2, rfl⟩ := pc_slices hp
  have hal : Below w2.heap.size w2 (w2.alloc (.cells #[.slice B0 K.orders.length d0, .slice B1 K.powers.length d1, .slice B2 K.conj.length d2] 26)) := (Below.refl _ _).alloc (Nat.le_refl _) _
  have HP := Lib.hid (hp.below hal)
  have HBX := Lib.hid (heap_alloc_new w2 (.cells #[.slice B0 K.orders.length d0, .slice B1 K.powers.length d1, .slice B2 K.conj.length d2] 26))
  have HB := Lib.hid (HB.out.trans ((hb.trans (hal.mono hb.size)).mono HB.out.size))
  clear hp hb hal
  go_wp2_with fail
  refine (new_good _ _ _ _ _ HP.out HE.out HC.out).mono ?_
  rintro e w3 ⟨⟨bg, br, rfl, hg, -⟩, hb⟩
  have HG := Lib.hid hg
  have HBX := Lib.hid ((hb.block _ (Array.getElem?_eq_some_iff.1 HBX.out).1).trans HBX.out)
  have HB := Lib.hid (HB.out.trans (hb.mono HB.out.size))
  clear hg hb HP
  have HEL := Lib.hid (elem_any hv HS.out w3 bg br HG.out a ha)
  have NX : Hid (NV K (elP K (a % prod K K.n))) := Lib.hid (elP_NV hv (Int.emod_nonneg _ (by have := Pc.prod_pos hv K.n (Nat.le_refl _); omega)) (Int.emod_lt_of_pos _ (by have := Pc.prod_pos hv K.n (Nat.le_refl _); omega)))
  generalize elP K (a % prod K K.n) = X at *
  go_wp2_with fail
  refine HEL.out.mono ?_
  rintro e w4 ⟨A4, c4, rfl, hx, hb⟩
  have HG := Lib.hid (HG.out.below hb)
  have HBX := Lib.hid ((hb.block _ (Array.getElem?_eq_some_iff.1 HBX.out).1).trans HBX.out)
  have HB := Lib.hid (HB.out.trans (hb.mono HB.out.size))
  have HX := Lib.hid hx
  clear hx hb HEL
  have HEL := Lib.hid (elem_any hv HS.out w4 bg br HG.out b hb_)
  have NY : Hid (NV K (elP K (b % prod K K.n))) := Lib.hid (elP_NV hv (Int.emod_nonneg _ (by have := Pc.prod_pos hv K.n (Nat.le_refl _); omega)) (Int.emod_lt_of_pos _ (by have := Pc.prod_pos hv K.n (Nat.le_refl _); omega)))
  generalize elP K (b % prod K K.n) = Y at *
  go_wp2_with fail
  refine HEL.out.mono ?_
  rintro e w5 ⟨A5, c5, rfl, hx, hb⟩
  have HG := Lib.hid (HG.out.below hb)
  have HX := Lib.hid (HX.out.below hb)
  have HBX := Lib.hid ((hb.block _ (Array.getElem?_eq_some_iff.1 HBX.out).1).trans HBX.out)
  have HB := Lib.hid (HB.out.trans (hb.mono HB.out.size))
  have HY := Lib.hid hx
  clear hx hb HEL
  have HEL := Lib.hid (elem_any hv HS.out w5 bg br HG.out c hc_)
  have NZ : Hid (NV K (elP K (c % prod K K.n))) := Lib.hid (elP_NV hv (Int.emod_nonneg _ (by have := Pc.prod_pos hv K.n (Nat.le_refl _); omega)) (Int.emod_lt_of_pos _ (by have := Pc.prod_pos hv K.n (Nat.le_refl _); omega)))
  generalize elP K (c % prod K K.n) = Z at *
  go_wp2_with fail
  refine HEL.out.mono ?_
  rintro e w6 ⟨A6, c6, rfl, hx, hb⟩
  have HG := Lib.hid (HG.out.below hb)
  have HX := Lib.hid (HX.out.below hb)
  have HY := Lib.hid (HY.out.below hb)
  have HBX := Lib.hid ((hb.block _ (Array.getElem?_eq_some_iff.1 HBX.out).1).trans HBX.out)
  have HB := Lib.hid (HB.out.trans (hb.mono HB.out.size))
  have HZ := Lib.hid hx
  clear hx hb HEL
  have b0 := (cell_of_row _ _ 0 _ _ _ HBX.out).trans (show _ = some (Value.slice B0 K.orders.length d0) from rfl)
  have hmk := make22 w6 K.orders.length (by omega)
  have hb : Below w6.heap.size w6 (w6.alloc (.cells (Array.replicate K.orders.length (.int .i64 0)) 3)) := (Below.refl _ _).alloc (Nat.le_refl _) _
  have hid0 : IntsAt (w6.alloc (.cells (Array.replicate K.orders.length (.int .i64 0)) 3)) (.slice (some ⟨w6.heap.size, 0, none⟩) K.orders.length K.orders.length) (zV K) := (xsAt_zero w6 K.orders.length).ints (by simp) (Nat.le_refl _) (by omega) (fun x hx => by rw [List.eq_of_mem_replicate hx]; omega)
  have HG := Lib.hid (HG.out.below hb)
  have HX := Lib.hid (HX.out.below hb)
  have HY := Lib.hid (HY.out.below hb)
  have HZ := Lib.hid (HZ.out.below hb)
  have HBX := Lib.hid ((hb.block _ (Array.getElem?_eq_some_iff.1 HBX.out).1).trans HBX.out)
  have HB := Lib.hid (HB.out.trans (hb.mono HB.out.size))
  have HI := Lib.hid hid0
  have NI := Lib.hid (NV_z hv)
  clear hid0 hb
  go_wp2_with fail
  obtain ⟨XY, hXY⟩ : ∃ z, mulP K X Y = z := ⟨_, rfl⟩
  have HM := Lib.hid (mul_eval hv HG.out HX.out HY.out (takeErr_of_NV NX.out) (takeErr_of_NV NY.out) hXY)
  have NXY : Hid (NV K XY) := Lib.hid (by rw [← hXY]; exact mulP_NV hv NX.out)
  have EXY := Lib.hid hXY; clear hXY
  refine HM.out.mono ?_
  rintro e w7 ⟨A7, c7, rfl, hx, hb⟩
  have HG := Lib.hid (HG.out.below hb)
  have HX := Lib.hid (HX.out.below hb)
  have HY := Lib.hid (HY.out.below hb)
  have HZ := Lib.hid (HZ.out.below hb)
  have HI := Lib.hid (HI.out.below hb)
  have HBX := Lib.hid ((hb.block _ (Array.getElem?_eq_some_iff.1 HBX.out).1).trans HBX.out)
  have HB := Lib.hid (HB.out.trans (hb.mono HB.out.size))
  have HXY := Lib.hid hx
  clear hx hb HM hmk b0
  obtain ⟨L, hL⟩ : ∃ z, mulP K XY Z = z := ⟨_, rfl⟩
  have HM := Lib.hid (mul_eval hv HG.out HXY.out HZ.out (takeErr_of_NV NXY.out) (takeErr_of_NV NZ.out) hL)
  have NL : Hid (NV K L) := Lib.hid (by rw [← hL]; exact mulP_NV hv NXY.out)
  have EL := Lib.hid hL; clear hL
  go_wp2_with fail
  refine HM.out.mono ?_
  rintro e w8 ⟨A8, c8, rfl, hx, hb⟩
  have HG := Lib.hid (HG.out.below hb)
  have HX := Lib.hid (HX.out.below hb)
  have HY := Lib.hid (HY.out.below hb)
  have HZ := Lib.hid (HZ.out.below hb)
  have HI := Lib.hid (HI.out.below hb)
  have HXY := Lib.hid (HXY.out.below hb)
  have HBX := Lib.hid ((hb.block _ (Array.getElem?_eq_some_iff.1 HBX.out).1).trans HBX.out)
  have HB := Lib.hid (HB.out.trans (hb.mono HB.out.size))
  have HL := Lib.hid hx
  clear hx hb HM
  obtain ⟨YZ, hYZ⟩ : ∃ z, mulP K Y Z = z := ⟨_, rfl⟩
  have HM := Lib.hid (mul_eval hv HG.out HY.out HZ.out (takeErr_of_NV NY.out) (takeErr_of_NV NZ.out) hYZ)
  have NYZ : Hid (NV K YZ) := Lib.hid (by rw [← hYZ]; exact mulP_NV hv NY.out)
  have EYZ := Lib.hid hYZ; clear hYZ
  go_wp2_with fail
  refine HM.out.mono ?_
  rintro e w9 ⟨A9, c9, rfl, hx, hb⟩
  have HG := Lib.hid (HG.out.below hb)
  have HX := Lib.hid (HX.out.below hb)
  have HY := Lib.hid (HY.out.below hb)
  have HZ := Lib.hid (HZ.out.below hb)
  have HI := Lib.hid (HI.out.below hb)
  have HXY := Lib.hid (HXY.out.below hb)
  have HL := Lib.hid (HL.out.below hb)
  have HBX := Lib.hid ((hb.block _ (Array.getElem?_eq_some_iff.1 HBX.out).1).trans HBX.out)
  have HB := Lib.hid (HB.out.trans (hb.mono HB.out.size))
  have HYZ := Lib.hid hx
  clear hx hb HM
  obtain ⟨R, hR⟩ : ∃ z, mulP K X YZ = z := ⟨_, rfl⟩
  have HM := Lib.hid (mul_eval hv HG.out HX.out HYZ.out (takeErr_of_NV NX.out) (takeErr_of_NV NYZ.out) hR)
  have NR : Hid (NV K R) := Lib.hid (by rw [← hR]; exact mulP_NV hv NX.out)
  have ER := Lib.hid hR; clear hR
  go_wp2_with fail
  refine HM.out.mono ?_
  rintro e w10 ⟨A10, c10, rfl, hx, hb⟩
  have HG := Lib.hid (HG.out.below hb)
  have HX := Lib.hid (HX.out.below hb)
  have HY := Lib.hid (HY.out.below hb)
  have HZ := Lib.hid (HZ.out.below hb)
  have HI := Lib.hid (HI.out.below hb)
  have HXY := Lib.hid (HXY.out.below hb)
  have HL := Lib.hid (HL.out.below hb)
  have HYZ := Lib.hid (HYZ.out.below hb)
  have HBX := Lib.hid ((hb.block _ (Array.getElem?_eq_some_iff.1 HBX.out).1).trans HBX.out)
  have HB := Lib.hid (HB.out.trans (hb.mono HB.out.size))
  have HR := Lib.hid hx
  clear hx hb HM
  obtain ⟨S, hS⟩ : ∃ z, mulP K X (zV K) = z := ⟨_, rfl⟩
  have HM := Lib.hid (mul_eval hv HG.out HX.out HI.out (takeErr_of_NV NX.out) (takeErr_of_NV NI.out) hS)
  have NS : Hid (NV K S) := Lib.hid (by rw [← hS]; exact mulP_NV hv NX.out)
  have ES := Lib.hid hS; clear hS
  go_wp2_with fail
  refine HM.out.mono ?_
  rintro e w11 ⟨A11, c11, rfl, hx, hb⟩
  have HG := Lib.hid (HG.out.below hb)
  have HX := Lib.hid (HX.out.below hb)
  have HY := Lib.hid (HY.out.below hb)
  have HZ := Lib.hid (HZ.out.below hb)
  have HI := Lib.hid (HI.out.below hb)
  have HXY := Lib.hid (HXY.out.below hb)
  have HL := Lib.hid (HL.out.below hb)
  have HYZ := Lib.hid (HYZ.out.below hb)
  have HR := Lib.hid (HR.out.below hb)
  have HBX := Lib.hid ((hb.block _ (Array.getElem?_eq_some_iff.1 HBX.out).1).trans HBX.out)
  have HB := Lib.hid (HB.out.trans (hb.mono HB.out.size))
  have HS := Lib.hid hx
  clear hx hb HM
  obtain ⟨TT, hTT⟩ : ∃ z, mulP K (zV K) X = z := ⟨_, rfl⟩
  have HM := Lib.hid (mul_eval hv HG.out HI.out HX.out (takeErr_of_NV NI.out) (takeErr_of_NV NX.out) hTT)
  have NTT : Hid (NV K TT) := Lib.hid (by rw [← hTT]; exact mulP_NV hv NI.out)
  have ETT := Lib.hid hTT; clear hTT
  go_wp2_with fail
  refine HM.out.mono ?_
  rintro e w12 ⟨A12, c12, rfl, hx, hb⟩
  have HG := Lib.hid (HG.out.below hb)
  have HX := Lib.hid (HX.out.below hb)
  have HY := Lib.hid (HY.out.below hb)
  have HZ := Lib.hid (HZ.out.below hb)
  have HI := Lib.hid (HI.out.below hb)
  have HXY := Lib.hid (HXY.out.below hb)
  have HL := Lib.hid (HL.out.below hb)
  have HYZ := Lib.hid (HYZ.out.below hb)
  have HR := Lib.hid (HR.out.below hb)
  have HS := Lib.hid (HS.out.below hb)
  have HBX := Lib.hid ((hb.block _ (Array.getElem?_eq_some_iff.1 HBX.out).1).trans HBX.out)
  have HB := Lib.hid (HB.out.trans (hb.mono HB.out.size))
  have HTT := Lib.hid hx
  clear hx hb HM
  obtain ⟨Q, hQ⟩ : ∃ z, invP K X = z := ⟨_, rfl⟩
  have HM := Lib.hid (inv_live hv w12 bg br HG.out.live HG.out.rules _ X HX.out (takeErr_of_NV NX.out))
  rw [hQ] at HM
  have NQ : Hid (NV K Q) := Lib.hid (by rw [← hQ]; exact invP_NV hv NX.out)
  have EQ := Lib.hid hQ; clear hQ
  go_wp2_with fail
  refine HM.out.mono ?_
  rintro e w13 ⟨⟨v, rfl, hx⟩, hb⟩
  obtain ⟨A13, c13, rfl, -⟩ := hx.open_
  have HG := Lib.hid (HG.out.below hb)
  have HX := Lib.hid (HX.out.below hb)
  have HY := Lib.hid (HY.out.below hb)
  have HZ := Lib.hid (HZ.out.below hb)
  have HI := Lib.hid (HI.out.below hb)
  have HXY := Lib.hid (HXY.out.below hb)
  have HL := Lib.hid (HL.out.below hb)
  have HYZ := Lib.hid (HYZ.out.below hb)
  have HR := Lib.hid (HR.out.below hb)
  have HS := Lib.hid (HS.out.below hb)
  have HTT := Lib.hid (HTT.out.below hb)
  have HBX := Lib.hid ((hb.block _ (Array.getElem?_eq_some_iff.1 HBX.out).1).trans HBX.out)
  have HB := Lib.hid (HB.out.trans (hb.mono HB.out.size))
  have HQ := Lib.hid hx
  clear hx hb HM
  obtain ⟨U, hU⟩ : ∃ z, mulP K X Q = z := ⟨_, rfl⟩
  have HM := Lib.hid (mul_eval hv HG.out HX.out HQ.out (takeErr_of_NV NX.out) (takeErr_of_NV NQ.out) hU)
  have NU : Hid (NV K U) := Lib.hid (by rw [← hU]; exact mulP_NV hv NX.out)
  have EU := Lib.hid hU; clear hU
  go_wp2_with fail
  refine HM.out.mono ?_
  rintro e w14 ⟨A14, c14, rfl, hx, hb⟩
  have HG := Lib.hid (HG.out.below hb)
  have HX := Lib.hid (HX.out.below hb)
  have HY := Lib.hid (HY.out.below hb)
  have HZ := Lib.hid (HZ.out.below hb)
  have HI := Lib.hid (HI.out.below hb)
  have HXY := Lib.hid (HXY.out.below hb)
  have HL := Lib.hid (HL.out.below hb)
  have HYZ := Lib.hid (HYZ.out.below hb)
  have HR := Lib.hid (HR.out.below hb)
  have HS := Lib.hid (HS.out.below hb)
  have HTT := Lib.hid (HTT.out.below hb)
  have HQ := Lib.hid (HQ.out.below hb)
  have HBX := Lib.hid ((hb.block _ (Array.getElem?_eq_some_iff.1 HBX.out).1).trans HBX.out)
  have HB := Lib.hid (HB.out.trans (hb.mono HB.out.size))
  have HU := Lib.hid hx
  clear hx hb HM
  obtain ⟨VV, hVV⟩ : ∃ z, mulP K Q X = z := ⟨_, rfl⟩
  have HM := Lib.hid (mul_eval hv HG.out HQ.out HX.out (takeErr_of_NV NQ.out) (takeErr_of_NV NX.out) hVV)
  have NVV : Hid (NV K VV) := Lib.hid (by rw [← hVV]; exact mulP_NV hv NQ.out)
  have EVV := Lib.hid hVV; clear hVV
  go_wp2_with fail
  refine HM.out.mono ?_
  rintro e w15 ⟨A15, c15, rfl, hx, hb⟩
  have HG := Lib.hid (HG.out.below hb)
  have HX := Lib.hid (HX.out.below hb)
  have HY := Lib.hid (HY.out.below hb)
  have HZ := Lib.hid (HZ.out.below hb)
  have HI := Lib.hid (HI.out.below hb)
  have HXY := Lib.hid (HXY.out.below hb)
  have HL := Lib.hid (HL.out.below hb)
  have HYZ := Lib.hid (HYZ.out.below hb)
  have HR := Lib.hid (HR.out.below hb)
  have HS := Lib.hid (HS.out.below hb)
  have HTT := Lib.hid (HTT.out.below hb)
  have HQ := Lib.hid (HQ.out.below hb)
  have HU := Lib.hid (HU.out.below hb)
  have HBX := Lib.hid ((hb.block _ (Array.getElem?_eq_some_iff.1 HBX.out).1).trans HBX.out)
  have HB := Lib.hid (HB.out.trans (hb.mono HB.out.size))
  have HVV := Lib.hid hx
  clear hx hb HM
  have h3 : n.tmod 50 < 50 := Int.tmod_lt_of_pos _ (by omega)
  have h4 : -50 < n.tmod 50 := by have := Int.lt_tmod_of_pos n (show (0 : Int) < 50 by omega); omega
  go_wp2_with fail
  generalize n.tmod 50 = m at *
  have hpl := fun q => pwL_NV (K := K) hv (X := X) (m := m) q
  have HPL := Lib.hid hpl
  have HI0 : Hid (IntsAt w15 (.slice (some ⟨w6.heap.size, 0, none⟩) K.orders.length K.orders.length) (pwL K X m 0)) := Lib.hid (by
    have e : pwL K X m 0 = zV K := by unfold pwL; split <;> rfl
    rw [e]; exact HI.out)
  clear hpl
  go_loopw [14, 40, 41] (fun s14 s40 s41 wr => ∃ q : Nat, q ≤ m.natAbs ∧ s41 = .int .i64 q ∧ s14 = .int .i64 0 ∧ IntsAt wr s40 (pwL K X m q) ∧ Below w15.heap.size w15 wr) (fun _ _ s _ => m.natAbs - (intOf s).toNat)
  case atStart => exact ⟨0, Nat.zero_le _, rfl, rfl, HI0.out, Below.refl _ _⟩
  case round =>
    obtain ⟨q, hq, rfl, rfl, hI, hB⟩ := hrel
    obtain ⟨Ap, cp, rfl, -⟩ := hI.open_
    have HIp := Lib.hid hI
    have HBp := Lib.hid hB
    have HGp := Lib.hid (HG.out.below hB)
    have HXp := Lib.hid (HX.out.below hB)
    have HQp := Lib.hid (HQ.out.below hB)
    clear hI hB
    have hq0 : (0 : Int) ≤ (q : Int) := Int.natCast_nonneg _
    by_cases hlt : q < m.natAbs
    · by_cases hm : 0 < m
      · have e1 : -m ≤ m := by omega
        have e2 : (q : Int) < m := by omega
        have HM := Lib.hid (mul_eval hv HGp.out HIp.out HXp.out (takeErr_of_NV (HPL.out q)) (takeErr_of_NV NX.out) (pwL_succ_pos hm q))
        go_wp2_with ((go_at_call 29); (refine HM.out.mono ?_); rintro e w20 ⟨A20, c20, rfl, hx20, hb20⟩)
        go_roundw
        case rel => exact ⟨q + 1, by omega, by go_num, rfl, hx20, HBp.out.trans (hb20.mono HBp.out.size)⟩
        case measure => simp [intOf]; omega
      · have e1 : m ≤ -m := by omega
        have e2 : (q : Int) < -m := by omega
        have hsu := pwL_succ_neg (K := K) (X := X) hm q
        rw [EQ.out] at hsu
        have HM := Lib.hid (mul_eval hv HGp.out HIp.out HQp.out (takeErr_of_NV (HPL.out q)) (takeErr_of_NV NQ.out) hsu)
        clear hsu
        go_wp2_with ((go_at_call 29); (refine HM.out.mono ?_); rintro e w20 ⟨A20, c20, rfl, hx20, hb20⟩)
        go_roundw
        case rel => exact ⟨q + 1, by omega, by go_num, rfl, hx20, HBp.out.trans (hb20.mono HBp.out.size)⟩
        case measure => simp [intOf]; omega
    · obtain rfl : q = m.natAbs := by omega
      obtain ⟨kk, hkk, hk5⟩ := per_exists hv HC.out NX.out
      have hend := pwL_end hv HC.out NX.out (m := m) hkk
      have HPW := Lib.hid (pow_live hv HC.out hp5 wr bg br HGp.out.live HGp.out.rules _ X m HXp.out (takeErr_of_NV NX.out) kk hkk (by omega))
      rw [← hend] at HPW
      have h1 := HL.out.below HBp.out
      have h2 := HR.out.below HBp.out
      have h5 := HS.out.below HBp.out
      have h6 := HTT.out.below HBp.out
      have h7 := HU.out.below HBp.out
      have h8 := HVV.out.below HBp.out
      have h9 := HI.out.below HBp.out
      have el : L = R := by rw [← EL.out, ← ER.out, ← EXY.out, ← EYZ.out]; exact (mul_assoc hv HC.out NX.out NY.out NZ.out).symm
      have es : S = X := by rw [← ES.out]; exact mul_zero X
      have et : TT = X := by rw [← ETT.out]; exact zero_mul hv NX.out
      have eu : U = zV K := by rw [← EU.out, ← EQ.out]; exact mul_inv hv NX.out
      have ev : VV = zV K := by rw [← EVV.out, ← EQ.out]; exact inv_mul hv HC.out NX.out
      have H1 := Lib.hid h1; have H2 := Lib.hid h2; have H5 := Lib.hid h5; have H6 := Lib.hid h6; have H7 := Lib.hid h7; have H8 := Lib.hid h8; have H9 := Lib.hid h9
      have E1 := Lib.hid el; have E2 := Lib.hid es; have E3 := Lib.hid et; have E4 := Lib.hid eu; have E5 := Lib.hid ev
      clear hkk hk5 hend h1 h2 h5 h6 h7 h8 h9 el es et eu ev
      by_cases hm : 0 < m
      all_goals
        first
        | have e1 : -m ≤ m := by omega
        | have e1 : m ≤ -m := by omega
        first
        | have e2 : m ≤ (m.natAbs : Int) := by omega
        | skip
        generalize hpv : pwL K X m m.natAbs = V at *
        clear hpv
        have e3 : ¬ ((m.natAbs : Nat) : Int) < m := by omega
        have e4 : ¬ ((m.natAbs : Nat) : Int) < -m := by omega
        go_wp2_with fail
        refine HPW.out.mono ?_
        rintro e w21 ⟨⟨v, rfl, hx⟩, hb⟩
        obtain ⟨A21, c21, rfl, -⟩ := hx.open_
        have HIq := Lib.hid (HIp.out.below hb)
        have HXq := Lib.hid (HXp.out.below hb)
        have H1 := Lib.hid (H1.out.below hb); have H2 := Lib.hid (H2.out.below hb); have H5 := Lib.hid (H5.out.below hb); have H6 := Lib.hid (H6.out.below hb); have H7 := Lib.hid (H7.out.below hb); have H8 := Lib.hid (H8.out.below hb); have H9 := Lib.hid (H9.out.below hb)
        have HBq := Lib.hid (HBp.out.trans (hb.mono HBp.out.size))
        have HXX := Lib.hid hx
        clear hx hb
        go_wp2_with fail
        refine (equal_yes _ _ _ V V HXX.out HIq.out rfl).mono ?_
        rintro e w22 ⟨rfl, hb⟩
        have HXq := Lib.hid (HXq.out.below hb)
        have H1 := Lib.hid (H1.out.below hb); have H2 := Lib.hid (H2.out.below hb); have H5 := Lib.hid (H5.out.below hb); have H6 := Lib.hid (H6.out.below hb); have H7 := Lib.hid (H7.out.below hb); have H8 := Lib.hid (H8.out.below hb); have H9 := Lib.hid (H9.out.below hb)
        have HBq := Lib.hid (HBq.out.trans (hb.mono HBq.out.size)); clear hb
        go_wp2_with fail
        refine (equal_yes _ _ _ L R H1.out H2.out E1.out).mono ?_
        rintro e w23 ⟨rfl, hb⟩
        have HXq := Lib.hid (HXq.out.below hb)
        have H5 := Lib.hid (H5.out.below hb); have H6 := Lib.hid (H6.out.below hb); have H7 := Lib.hid (H7.out.below hb); have H8 := Lib.hid (H8.out.below hb); have H9 := Lib.hid (H9.out.below hb)
        have HBq := Lib.hid (HBq.out.trans (hb.mono HBq.out.size)); clear hb
        go_wp2_with fail
        refine (equal_yes _ _ _ S X H5.out HXq.out E2.out).mono ?_
        rintro e w24 ⟨rfl, hb⟩
        have HXq := Lib.hid (HXq.out.below hb)
        have H6 := Lib.hid (H6.out.below hb); have H7 := Lib.hid (H7.out.below hb); have H8 := Lib.hid (H8.out.below hb); have H9 := Lib.hid (H9.out.below hb)
        have HBq := Lib.hid (HBq.out.trans (hb.mono HBq.out.size)); clear hb
        go_wp2_with fail
        refine (equal_yes _ _ _ TT X H6.out HXq.out E3.out).mono ?_
        rintro e w25 ⟨rfl, hb⟩
        have H7 := Lib.hid (H7.out.below hb); have H8 := Lib.hid (H8.out.below hb); have H9 := Lib.hid (H9.out.below hb)
        have HBq := Lib.hid (HBq.out.trans (hb.mono HBq.out.size)); clear hb
        go_wp2_with fail
        refine (equal_yes _ _ _ U (zV K) H7.out H9.out E4.out).mono ?_
        rintro e w26 ⟨rfl, hb⟩
        have H8 := Lib.hid (H8.out.below hb); have H9 := Lib.hid (H9.out.below hb)
        have HBq := Lib.hid (HBq.out.trans (hb.mono HBq.out.size)); clear hb
        go_wp2_with fail
        refine (equal_yes _ _ _ VV (zV K) H8.out H9.out E5.out).mono ?_
        rintro e w27 ⟨rfl, hb⟩
        have HBq := Lib.hid (HBq.out.trans (hb.mono HBq.out.size)); clear hb
        go_wp2_with fail
        go_ret
        exact ⟨rfl, HB.out.trans (HBq.out.mono HB.out.size)⟩
end Go.Proofs
