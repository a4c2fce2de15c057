/- Plain: ranks order lists like words; the order of an element divides that of a known group; Closed facts on the known groups; The walk of CollectRanks. -/
import Derived.Test.YtnhoiompdjabbaaB3
import Derived.Test.YtnhoiompdjabbaaC1
namespace Go.Proofs.Pc

theorem rk_congr {P : PcD} {x y : V} : ∀ (k : Nat), (∀ j, j < k → x.getD j 0 = y.getD j 0) → rk P x k = rk P y k
  | 0, _ => rfl
  | k + 1, h => by rw [rk_succ, rk_succ, rk_congr k (fun j hj => h j (by omega)), h k (by omega)]
theorem rk_lt {P : PcD} (hv : Valid P) {x y : V} (hx : NV P x) (hy : NV P y) {k : Nat} (hk : k < P.n) (he : ∀ j, j < k → x.getD j 0 = y.getD j 0) (hl : x.getD k 0 < y.getD k 0) : rk P x P.n < rk P y P.n := by
  have key : ∀ d, k + 1 + d ≤ P.n → rk P x (k + 1 + d) < rk P y (k + 1 + d) := by
    intro d
    induction d with
    | zero =>
      intro _
      show rk P x (k + 1) < rk P y (k + 1)
      rw [rk_succ, rk_succ, rk_congr k he]
      omega
    | succ d ih =>
      intro hd
      have h1 := ih (by omega)
      have h2 := hx.2 (k + 1 + d) (by omega)
      have h3 := hy.2 (k + 1 + d) (by omega)
      have h4 := hv.ord2 (k + 1 + d) (by omega)
      show rk P x ((k + 1 + d) + 1) < rk P y ((k + 1 + d) + 1)
      rw [rk_succ, rk_succ]
      have h5 : (rk P x (k + 1 + d) + 1) * P.ord (k + 1 + d) ≤ rk P y (k + 1 + d) * P.ord (k + 1 + d) := Int.mul_le_mul_of_nonneg_right (by omega) (by omega)
      rw [Int.add_mul] at h5
      omega
  have := key (P.n - (k + 1)) (by omega)
  rwa [show k + 1 + (P.n - (k + 1)) = P.n by omega] at this
theorem per_dvd {P : PcD} (hv : Valid P) (hc : consB P = true) {x : V} (hx : NV P x) {k N : Nat} (hk : IsPer P x k) (hN : npow P x N = zV P) : N % k = 0 := by
  have h1 := npow_mod hv hc hx hk.one N
  rw [hN] at h1
  have h2 := hk.pos
  have h3 := Nat.mod_lt N h2
  rcases Nat.eq_zero_or_pos (N % k) with h | h
  · exact h
  · exact absurd h1.symm (hk.least _ h h3)
end Go.Proofs.Pc
namespace Go.Proofs
open Go.RowKit Go.Proofs.Pc

def expB (K : PcD) : Bool := (List.range (prod K K.n).toNat).all fun a => decide (npow K (elP K (a : Int)) (prod K K.n).toNat = zV K)
theorem exp_ok : ∀ r, r < 12 → expB (knownD r) = true := by decide +kernel
theorem exp_at {r : Nat} (hr : r < 12) {a : Int} (h0 : 0 ≤ a) (h1 : a < prod (knownD r) (knownD r).n) : npow (knownD r) (elP (knownD r) a) (prod (knownD r) (knownD r).n).toNat = zV (knownD r) := by
  have h := exp_ok r hr
  unfold expB at h
  rw [List.all_eq_true] at h
  have := h a.toNat (by simp; omega)
  rw [decide_eq_true_iff, Int.toNat_of_nonneg h0] at this
  exact this
end Go.Proofs
namespace Go.Proofs
open Go.RowKit Go.Proofs.Pc

theorem ints_cell {w : World} {A : Option Addr} {n c : Nat} {X : List Int} (h : IntsAt w (.slice A n c) X) (hl : X.length = n) {j : Nat} (hj : j < n) : ∃ b o, A = some ⟨b, o, none⟩ ∧ w.cell? ⟨b, o + j, none⟩ = some (.int .i64 (X.getD j 0)) ∧ n ≤ c := by
  obtain ⟨A', c', e, h1, -, hr⟩ := h.open_
  cases e
  obtain ⟨b, o, rfl, hc⟩ := hr (by omega)
  exact ⟨b, o, rfl, hc j (by omega), h1⟩

set_option maxRecDepth 100000 in
set_option maxHeartbeats 8000000 in
theorem ranks_walk (w : World) (which a b : Int) (hw : -9223372036854775808 ≤ which ∧ which ≤ 9223372036854775807) (ha : -9223372036854775808 ≤ a ∧ a ≤ 9223372036854775807) (hb_ : -9223372036854775808 ≤ b ∧ b ≤ 9223372036854775807) :
    Calls Try.prog 10 #[.int .i64 which, .int .i64 a, .int .i64 b] w fun e w' => e = .returned (.bool true) ∧ Below w.heap.size w w' := by
  obtain ⟨rr, hrr⟩ : ∃ rr, rr = (which % 12).toNat := ⟨_, rfl⟩
  have hr12 : rr < 12 := by omega
  obtain ⟨K, hK⟩ : ∃ K, K = knownD (which % 12).toNat := ⟨_, rfl⟩
  have kg : KG K := by rw [hK]; exact kg_of (by omega)
  have HEX : Hid (∀ x : Int, 0 ≤ x → x < prod K K.n → npow K (elP K x) (prod K K.n).toNat = zV K) := Lib.hid (fun x h0 h1 => by rw [hK] at h1 ⊢; exact exp_at (by omega) h0 h1)
  have HKE := Lib.hid hK
  obtain ⟨he, hv, hc, hs, hp5, hn4⟩ := kg
  have hpp := Pc.prod_pos hv K.n (Nat.le_refl _)
  have HE := Lib.hid he; have HC := Lib.hid hc; have HSM := Lib.hid hs
  have hlen : K.orders.length ≤ 4 := hn4
  have ha0 := Int.emod_nonneg a (show prod K K.n ≠ 0 by omega)
  have ha1 := Int.emod_lt_of_pos a (show 0 < prod K K.n by omega)
  have hb0 := Int.emod_nonneg b (show prod K K.n ≠ 0 by omega)
  have hb1 := Int.emod_lt_of_pos b (show 0 < prod K K.n by omega)
  have HTA := Lib.hid (fun w => turn_any w a (prod K K.n) (by omega) (by omega) ha)
  have HTB := Lib.hid (fun w => turn_any w b (prod K K.n) (by omega) (by omega) hb_)
  have NX := Lib.hid (elP_NV hv ha0 ha1)
  have NY := Lib.hid (elP_NV hv hb0 hb1)
  have EX := Lib.hid (rk_el hv ha0 ha1)
  have EY := Lib.hid (rk_el hv hb0 hb1)
  have EP := Lib.hid (HEX.out _ ha0 ha1)
  have LX : Hid ((elP K (a % prod K K.n)).length = K.n) := Lib.hid NX.out.1
  have LY : Hid ((elP K (b % prod K K.n)).length = K.n) := Lib.hid NY.out.1
  have HLA := Lib.hid (fun w bg br hg hr => element_live hv hs w bg br hg hr (a % prod K K.n) ha0 ha1)
  have HLB := Lib.hid (fun w bg br hg hr => element_live hv hs w bg br hg hr (b % prod K K.n) hb0 hb1)
  generalize elP K (a % prod K K.n) = X at *
  generalize elP K (b % prod K K.n) = Y at *
  generalize a % prod K K.n = a' at *
  generalize b % prod K K.n = b' at *
  have d1 : decide (prod K K.n < 1) = false := decide_eq_false (by omega)
  clear hK he hc hs hrr HEX
  go_enter Try.func10, Try.ntmps10
  go_wp2_with fail
  refine (kn_walk _).mono ?_
  rintro e w1 ⟨rfl, hb⟩
  have HB := Lib.hid hb; clear hb
  go_wp2_with fail
  refine (known_any _ which hw).mono ?_
  rw [← HKE.out]
  rintro e w2 ⟨⟨u0, u1, u2, rfl, hp⟩, hb⟩
  obtain ⟨⟨B0, d0, rfl⟩, ⟨B1, d1', rfl⟩, B2, d2, rfl⟩ := pc_slices hp
  have hal : Below w2.heap.size w2 (w2.alloc (.cells #[.slice B0 K.orders.length d0, .slice B1 K.powers.length d1', .slice B2 K.conj.length d2] 26)) := (Below.refl _ _).alloc (Nat.le_refl _) _
  have HP := Lib.hid (hp.below hal)
  have HBX := Lib.hid (heap_alloc_new w2 (.cells #[.slice B0 K.orders.length d0, .slice B1 K.powers.length d1', .slice B2 K.conj.length d2] 26))
  have HB := Lib.hid (HB.out.trans ((hb.trans (hal.mono hb.size)).mono HB.out.size))
  clear hp hb hal
  go_wp2_with fail
  refine (new_good _ _ _ _ _ HP.out HE.out HC.out).mono ?_
  rintro e w3 ⟨⟨bg, br, rfl, hg, -⟩, hb⟩
  have HG := Lib.hid hg
  have HBX := Lib.hid ((hb.block _ (Array.getElem?_eq_some_iff.1 HBX.out).1).trans HBX.out)
  have HB := Lib.hid (HB.out.trans (hb.mono HB.out.size))
  clear hg hb HP
  go_wp2_with fail
  refine (order_live' hv HSM.out _ bg br HG.out.live HG.out.rules).mono ?_
  rintro e w' ⟨rfl, rfl⟩
  go_wp2_with fail
  refine (order_live' hv HSM.out _ bg br HG.out.live HG.out.rules).mono ?_
  rintro e w' ⟨rfl, rfl⟩
  go_wp2_with fail
  refine (HTA.out _).mono ?_
  rintro e w' ⟨rfl, rfl⟩
  go_wp2_with fail
  refine (order_live' hv HSM.out _ bg br HG.out.live HG.out.rules).mono ?_
  rintro e w' ⟨rfl, rfl⟩
  go_wp2_with fail
  refine (HTB.out _).mono ?_
  rintro e w' ⟨rfl, rfl⟩
  go_wp2_with fail
  refine (HLA.out _ bg br HG.out.live HG.out.rules).mono ?_
  rintro e w4 ⟨⟨v, rfl, hx⟩, hb⟩
  obtain ⟨A4, c4, rfl, -⟩ := hx.open_
  rw [LX.out] at hx
  rw [LX.out]
  have HG := Lib.hid (HG.out.below hb)
  have HBX := Lib.hid ((hb.block _ (Array.getElem?_eq_some_iff.1 HBX.out).1).trans HBX.out)
  have HB := Lib.hid (HB.out.trans (hb.mono HB.out.size))
  have HX := Lib.hid hx
  clear hx hb
  go_wp2_with fail
  refine (HLB.out _ bg br HG.out.live HG.out.rules).mono ?_
  rintro e w5 ⟨⟨v, rfl, hx⟩, hb⟩
  obtain ⟨A5, c5, rfl, -⟩ := hx.open_
  rw [LY.out] at hx
  rw [LY.out]
  have HG := Lib.hid (HG.out.below hb)
  have HX := Lib.hid (HX.out.below hb)
  have HBX := Lib.hid ((hb.block _ (Array.getElem?_eq_some_iff.1 HBX.out).1).trans HBX.out)
  have HB := Lib.hid (HB.out.trans (hb.mono HB.out.size))
  have HY := Lib.hid hx
  clear hx hb
  have HR := Lib.hid (rank_live hv HSM.out w5 bg br HG.out.live HG.out.rules _ X HX.out (takeErr_of_NV NX.out))
  go_wp2_with fail
  refine HR.out.mono ?_
  rintro e w6 ⟨rfl, hb⟩
  rw [EX.out]
  have HG := Lib.hid (HG.out.below hb)
  have HX := Lib.hid (HX.out.below hb)
  have HY := Lib.hid (HY.out.below hb)
  have HBX := Lib.hid ((hb.block _ (Array.getElem?_eq_some_iff.1 HBX.out).1).trans HBX.out)
  have HB := Lib.hid (HB.out.trans (hb.mono HB.out.size))
  clear hb HR
  have HR := Lib.hid (rank_live hv HSM.out w6 bg br HG.out.live HG.out.rules _ Y HY.out (takeErr_of_NV NY.out))
  go_wp2_with fail
  refine HR.out.mono ?_
  rintro e w7 ⟨rfl, hb⟩
  rw [EY.out]
  have HG := Lib.hid (HG.out.below hb)
  have HX := Lib.hid (HX.out.below hb)
  have HY := Lib.hid (HY.out.below hb)
  have HBX := Lib.hid ((hb.block _ (Array.getElem?_eq_some_iff.1 HBX.out).1).trans HBX.out)
  have HB := Lib.hid (HB.out.trans (hb.mono HB.out.size))
  clear hb HR
  go_wp2_with fail
  have HXC := Lib.hid (fun j (hj : j < K.n) => ints_cell HX.out LX.out hj)
  have HYC := Lib.hid (fun j (hj : j < K.n) => ints_cell HY.out LY.out hj)
  go_loopw [18] (fun s wr => ∃ q : Nat, q ≤ K.n ∧ s = .int .i64 q ∧ (∀ j, j < q → X.getD j 0 = Y.getD j 0) ∧ ∃ nn, wr = w7.drewN nn) (fun s _ => K.n - (intOf s).toNat)
  case atStart => exact ⟨0, Nat.zero_le _, rfl, fun j hj => absurd hj (Nat.not_lt_zero j), 0, rfl⟩
  case round =>
    obtain ⟨q, hq, rfl, hpre, nn, rfl⟩ := hrel
    have HPRE := Lib.hid hpre
    clear hpre
    have hq0 : (0 : Int) ≤ (q : Int) := Int.natCast_nonneg _
    by_cases hlt : q < K.n
    · obtain ⟨b3, o3, rfl, hx3, -⟩ := HXC.out q hlt
      obtain ⟨b4, o4, rfl, hx4, -⟩ := HYC.out q hlt
      have hqn : (q : Int) < (K.n : Int) := by omega
      have e1 : ((q : Int) == (K.n : Int)) = false := beq_eq_false_iff_ne.2 (by omega)
      have HL1 := Lib.hid (fun h => rk_lt hv NX.out NY.out hlt HPRE.out h)
      have HL2 := Lib.hid (fun h => rk_lt hv NY.out NX.out hlt (fun j hj => (HPRE.out j hj).symm) h)
      rw [EX.out, EY.out] at HL1 HL2
      have HEQ : Hid (X.getD q 0 = Y.getD q 0 → ∀ j, j < q + 1 → X.getD j 0 = Y.getD j 0) := Lib.hid (fun h => all_succ HPRE.out h)
      generalize X.getD q 0 = xq at *
      generalize Y.getD q 0 = yq at *
      rcases Int.lt_trichotomy xq yq with hxy | hxy | hxy
      · have d5 : (xq == yq) = false := beq_eq_false_iff_ne.2 (by omega)
        have hab := HL1.out hxy
        have d6 : (a' != b') = true := by simp; omega
        have d7 : decide (a' < b') = true := decide_eq_true hab
        have d8 : decide (xq < yq) = true := decide_eq_true hxy
        go_wp2_with fail
        go_quiet (fail)
        go_wp2_with fail
        go_quiet (fail)
        go_wp2_with fail
        have hgz := HG.out
        refine (per_live hv HC.out hp5 _ bg br (HG.out.below (below_drewN (Below.refl _ _) _)).live (HG.out.below (below_drewN (Below.refl _ _) _)).rules _ X (HX.out.below (below_drewN (Below.refl _ _) _)) (takeErr_of_NV NX.out)).mono ?_
        rintro e w8 ⟨⟨kk, hkk, hk5, rfl⟩, hb⟩
        have hb : Below w7.heap.size w7 w8 := (below_drewN (Below.refl w7.heap.size w7) _).trans hb
        have HG := Lib.hid (HG.out.below hb)
        have HX := Lib.hid (HX.out.below hb)
        have HBX := Lib.hid ((hb.block _ (Array.getElem?_eq_some_iff.1 HBX.out).1).trans HBX.out)
        have HB := Lib.hid (HB.out.trans (hb.mono HB.out.size))
        have hkp := hkk.pos
        have hdv := per_dvd hv HC.out NX.out hkk EP.out
        have hk1 : (0 : Int) < (kk : Int) := by omega
        have hmod : (prod K K.n).tmod (kk : Int) = 0 := by
          rw [Int.tmod_eq_emod_of_nonneg (by omega)]
          have : ((((prod K K.n).toNat % kk : Nat)) : Int) = 0 := by rw [hdv]; rfl
          rw [← this]; push_cast; rw [Int.toNat_of_nonneg (by omega)]
        have hem : prod K K.n % (kk : Int) = 0 := by rw [← Int.tmod_eq_emod_of_nonneg (show 0 ≤ prod K K.n by omega)]; exact hmod
        have dm1 : (prod K K.n % (kk : Int) == 0) = true := beq_iff_eq.2 hem
        have dm2 : ((prod K K.n).tmod (kk : Int) == 0) = true := beq_iff_eq.2 hmod
        have HPW := Lib.hid (pow_live hv HC.out hp5 w8 bg br HG.out.live HG.out.rules _ X (kk : Int) HX.out (takeErr_of_NV NX.out) kk hkk hk5)
        rw [Int.emod_self, show (0 : Int).toNat = 0 from rfl] at HPW
        have hk0 : ((kk : Int) == 0) = false := beq_eq_false_iff_ne.2 (by omega)
        have dk : decide ((0 : Int) < (kk : Int)) = true := decide_eq_true hk1
        clear hb hgz hkk hdv hmod hem
        go_wp2_with fail
        refine HPW.out.mono ?_
        rintro e w9 ⟨⟨v, rfl, hx⟩, hb⟩
        obtain ⟨A9, c9, rfl, -⟩ := hx.open_
        have HG := Lib.hid (HG.out.below hb)
        have HBX := Lib.hid ((hb.block _ (Array.getElem?_eq_some_iff.1 HBX.out).1).trans HBX.out)
        have HB := Lib.hid (HB.out.trans (hb.mono HB.out.size))
        have HZ := Lib.hid hx
        have b0 := (cell_of_row _ _ 0 _ _ _ HBX.out).trans (show _ = some (Value.slice B0 K.orders.length d0) from rfl)
        have hmk := make22 w9 K.orders.length (by omega)
        clear hx hb
        go_wp2_with fail
        refine (order_live' hv HSM.out _ bg br HG.out.live HG.out.rules).mono ?_
        rintro e w' ⟨rfl, rfl⟩
        go_wp2_with fail
        have hal : Below w9.heap.size w9 (w9.alloc (.cells (Array.replicate K.orders.length (.int .i64 0)) 3)) := (Below.refl _ _).alloc (Nat.le_refl _) _
        have hid0 : IntsAt (w9.alloc (.cells (Array.replicate K.orders.length (.int .i64 0)) 3)) (.slice (some ⟨w9.heap.size, 0, none⟩) K.orders.length K.orders.length) (zV K) := (xsAt_zero w9 K.orders.length).ints (by simp) (Nat.le_refl _) (by omega) (fun x hx => by rw [List.eq_of_mem_replicate hx]; omega)
        refine (equal_yes _ _ _ (npow K X 0) (zV K) (HZ.out.below hal) hid0 rfl).mono ?_
        rintro e w10 ⟨rfl, hb⟩
        have hb := hal.trans (hb.mono hal.size)
        have HB := Lib.hid (HB.out.trans (hb.mono HB.out.size))
        clear hb hal hid0
        go_wp2_with fail
        go_ret
        exact ⟨rfl, HB.out⟩
      · have d5 : (xq == yq) = true := beq_iff_eq.2 hxy
        have HH := Lib.hid (HEQ.out hxy)
        clear hxy
        go_wp2_with fail
        go_quiet (fail)
        go_wp2_with fail
        go_roundw
        case rel => exact ⟨q + 1, by omega, by go_num, HH.out, (by first | exact ⟨_, rfl⟩ | exact ex_drewN)⟩
        case measure => simp [intOf]; omega
      · have d5 : (xq == yq) = false := beq_eq_false_iff_ne.2 (by omega)
        have hab := HL2.out hxy
        have d6 : (a' != b') = true := by simp; omega
        have d7 : decide (a' < b') = false := decide_eq_false (by omega)
        have d8 : decide (xq < yq) = false := decide_eq_false (by omega)
        go_wp2_with fail
        go_quiet (fail)
        go_wp2_with fail
        go_quiet (fail)
        go_wp2_with fail
        have hgz := HG.out
        refine (per_live hv HC.out hp5 _ bg br (HG.out.below (below_drewN (Below.refl _ _) _)).live (HG.out.below (below_drewN (Below.refl _ _) _)).rules _ X (HX.out.below (below_drewN (Below.refl _ _) _)) (takeErr_of_NV NX.out)).mono ?_
        rintro e w8 ⟨⟨kk, hkk, hk5, rfl⟩, hb⟩
        have hb : Below w7.heap.size w7 w8 := (below_drewN (Below.refl w7.heap.size w7) _).trans hb
        have HG := Lib.hid (HG.out.below hb)
        have HX := Lib.hid (HX.out.below hb)
        have HBX := Lib.hid ((hb.block _ (Array.getElem?_eq_some_iff.1 HBX.out).1).trans HBX.out)
        have HB := Lib.hid (HB.out.trans (hb.mono HB.out.size))
        have hkp := hkk.pos
        have hdv := per_dvd hv HC.out NX.out hkk EP.out
        have hk1 : (0 : Int) < (kk : Int) := by omega
        have hmod : (prod K K.n).tmod (kk : Int) = 0 := by
          rw [Int.tmod_eq_emod_of_nonneg (by omega)]
          have : ((((prod K K.n).toNat % kk : Nat)) : Int) = 0 := by rw [hdv]; rfl
          rw [← this]; push_cast; rw [Int.toNat_of_nonneg (by omega)]
        have hem : prod K K.n % (kk : Int) = 0 := by rw [← Int.tmod_eq_emod_of_nonneg (show 0 ≤ prod K K.n by omega)]; exact hmod
        have dm1 : (prod K K.n % (kk : Int) == 0) = true := beq_iff_eq.2 hem
        have dm2 : ((prod K K.n).tmod (kk : Int) == 0) = true := beq_iff_eq.2 hmod
        have HPW := Lib.hid (pow_live hv HC.out hp5 w8 bg br HG.out.live HG.out.rules _ X (kk : Int) HX.out (takeErr_of_NV NX.out) kk hkk hk5)
        rw [Int.emod_self, show (0 : Int).toNat = 0 from rfl] at HPW
        have hk0 : ((kk : Int) == 0) = false := beq_eq_false_iff_ne.2 (by omega)
        have dk : decide ((0 : Int) < (kk : Int)) = true := decide_eq_true hk1
        clear hb hgz hkk hdv hmod hem
        go_wp2_with fail
        refine HPW.out.mono ?_
        rintro e w9 ⟨⟨v, rfl, hx⟩, hb⟩
        obtain ⟨A9, c9, rfl, -⟩ := hx.open_
        have HG := Lib.hid (HG.out.below hb)
        have HBX := Lib.hid ((hb.block _ (Array.getElem?_eq_some_iff.1 HBX.out).1).trans HBX.out)
        have HB := Lib.hid (HB.out.trans (hb.mono HB.out.size))
        have HZ := Lib.hid hx
        have b0 := (cell_of_row _ _ 0 _ _ _ HBX.out).trans (show _ = some (Value.slice B0 K.orders.length d0) from rfl)
        have hmk := make22 w9 K.orders.length (by omega)
        clear hx hb
        go_wp2_with fail
        refine (order_live' hv HSM.out _ bg br HG.out.live HG.out.rules).mono ?_
        rintro e w' ⟨rfl, rfl⟩
        go_wp2_with fail
        have hal : Below w9.heap.size w9 (w9.alloc (.cells (Array.replicate K.orders.length (.int .i64 0)) 3)) := (Below.refl _ _).alloc (Nat.le_refl _) _
        have hid0 : IntsAt (w9.alloc (.cells (Array.replicate K.orders.length (.int .i64 0)) 3)) (.slice (some ⟨w9.heap.size, 0, none⟩) K.orders.length K.orders.length) (zV K) := (xsAt_zero w9 K.orders.length).ints (by simp) (Nat.le_refl _) (by omega) (fun x hx => by rw [List.eq_of_mem_replicate hx]; omega)
        refine (equal_yes _ _ _ (npow K X 0) (zV K) (HZ.out.below hal) hid0 rfl).mono ?_
        rintro e w10 ⟨rfl, hb⟩
        have hb := hal.trans (hb.mono hal.size)
        have HB := Lib.hid (HB.out.trans (hb.mono HB.out.size))
        clear hb hal hid0
        go_wp2_with fail
        go_ret
        exact ⟨rfl, HB.out⟩
    · obtain rfl : q = K.n := by omega
      have hXY : rk K X K.n = rk K Y K.n := rk_congr K.n HPRE.out
      rw [EX.out, EY.out] at hXY
      have d6 : (a' != b') = false := by simp [hXY]
      clear hXY
      go_wp2_with fail
      go_quiet (fail)
      go_wp2_with fail
      go_quiet (fail)
      go_wp2_with fail
      have hgz := HG.out
      refine (per_live hv HC.out hp5 _ bg br (HG.out.below (below_drewN (Below.refl _ _) _)).live (HG.out.below (below_drewN (Below.refl _ _) _)).rules _ X (HX.out.below (below_drewN (Below.refl _ _) _)) (takeErr_of_NV NX.out)).mono ?_
      rintro e w8 ⟨⟨kk, hkk, hk5, rfl⟩, hb⟩
      have hb : Below w7.heap.size w7 w8 := (below_drewN (Below.refl w7.heap.size w7) _).trans hb
      have HG := Lib.hid (HG.out.below hb)
      have HX := Lib.hid (HX.out.below hb)
      have HBX := Lib.hid ((hb.block _ (Array.getElem?_eq_some_iff.1 HBX.out).1).trans HBX.out)
      have HB := Lib.hid (HB.out.trans (hb.mono HB.out.size))
      have hkp := hkk.pos
      have hdv := per_dvd hv HC.out NX.out hkk EP.out
      have hk1 : (0 : Int) < (kk : Int) := by omega
      have hmod : (prod K K.n).tmod (kk : Int) = 0 := by
        rw [Int.tmod_eq_emod_of_nonneg (by omega)]
        have : ((((prod K K.n).toNat % kk : Nat)) : Int) = 0 := by rw [hdv]; rfl
        rw [← this]; push_cast; rw [Int.toNat_of_nonneg (by omega)]
      have hem : prod K K.n % (kk : Int) = 0 := by rw [← Int.tmod_eq_emod_of_nonneg (show 0 ≤ prod K K.n by omega)]; exact hmod
      have dm1 : (prod K K.n % (kk : Int) == 0) = true := beq_iff_eq.2 hem
      have dm2 : ((prod K K.n).tmod (kk : Int) == 0) = true := beq_iff_eq.2 hmod
      have HPW := Lib.hid (pow_live hv HC.out hp5 w8 bg br HG.out.live HG.out.rules _ X (kk : Int) HX.out (takeErr_of_NV NX.out) kk hkk hk5)
      rw [Int.emod_self, show (0 : Int).toNat = 0 from rfl] at HPW
      have hk0 : ((kk : Int) == 0) = false := beq_eq_false_iff_ne.2 (by omega)
      have dk : decide ((0 : Int) < (kk : Int)) = true := decide_eq_true hk1
      clear hb hgz hkk hdv hmod hem
      go_wp2_with fail
      refine HPW.out.mono ?_
      rintro e w9 ⟨⟨v, rfl, hx⟩, hb⟩
      obtain ⟨A9, c9, rfl, -⟩ := hx.open_
      have HG := Lib.hid (HG.out.below hb)
      have HBX := Lib.hid ((hb.block _ (Array.getElem?_eq_some_iff.1 HBX.out).1).trans HBX.out)
      have HB := Lib.hid (HB.out.trans (hb.mono HB.out.size))
      have HZ := Lib.hid hx
      have b0 := (cell_of_row _ _ 0 _ _ _ HBX.out).trans (show _ = some (Value.slice B0 K.orders.length d0) from rfl)
      have hmk := make22 w9 K.orders.length (by omega)
      clear hx hb
      go_wp2_with fail
      refine (order_live' hv HSM.out _ bg br HG.out.live HG.out.rules).mono ?_
      rintro e w' ⟨rfl, rfl⟩
      go_wp2_with fail
      have hal : Below w9.heap.size w9 (w9.alloc (.cells (Array.replicate K.orders.length (.int .i64 0)) 3)) := (Below.refl _ _).alloc (Nat.le_refl _) _
      have hid0 : IntsAt (w9.alloc (.cells (Array.replicate K.orders.length (.int .i64 0)) 3)) (.slice (some ⟨w9.heap.size, 0, none⟩) K.orders.length K.orders.length) (zV K) := (xsAt_zero w9 K.orders.length).ints (by simp) (Nat.le_refl _) (by omega) (fun x hx => by rw [List.eq_of_mem_replicate hx]; omega)
      refine (equal_yes _ _ _ (npow K X 0) (zV K) (HZ.out.below hal) hid0 rfl).mono ?_
      rintro e w10 ⟨rfl, hb⟩
      have hb := hal.trans (hb.mono hal.size)
      have HB := Lib.hid (HB.out.trans (hb.mono HB.out.size))
      clear hb hal hid0
      go_wp2_with fail
      go_ret
      exact ⟨rfl, HB.out⟩
end Go.Proofs
