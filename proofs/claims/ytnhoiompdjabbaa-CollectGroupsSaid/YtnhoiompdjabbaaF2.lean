/- The reference's methods: Inv, Pow, Period, Rank; The reference's Element. -/
import Derived.Test.YtnhoiompdjabbaaF1
import Derived.Test.YtnhoiompdjabbaaB3
import Derived.Deep.RegionHeld3
namespace Go.Proofs
open Go.RowKit Go.Proofs.Pc

set_option maxRecDepth 100000 in
set_option maxHeartbeats 400000 in
theorem invRef_bad {P : PcD} (w : World) (bh : Nat) (hg : RGrpAt w bh P) (s1 : Value) (x : List Int) (h1 : IntsAt w s1 x) (hx : takeErr P x ≠ 0) :
    Calls Try.prog 33 #[.pointer (some ⟨bh, 0, none⟩), s1] w fun e w' => e = .returned (.tuple #[.slice none 0 0, .int .i64 (takeErr P x)]) ∧ Below w.heap.size w w' := by
  obtain ⟨A, ca, rfl, -⟩ := h1.open_
  have HP1 := Lib.hid (proper_any w bh hg _ x h1)
  have d1 : (takeErr P x != 0) = true := by simp [hx]
  generalize takeErr P x = t at *
  clear hg h1 hx
  go_enter Try.func33, Try.ntmps33
  go_wp2_with fail
  refine HP1.out.mono ?_
  rintro e w1 ⟨rfl, hb⟩
  have HB := Lib.hid hb
  clear hb
  go_wp2_with fail
  go_ret2
  exact ⟨rfl, HB.out⟩

set_option maxRecDepth 100000 in
set_option maxHeartbeats 400000 in
theorem perMRef_bad {P : PcD} (w : World) (bh : Nat) (hg : RGrpAt w bh P) (s1 : Value) (x : List Int) (h1 : IntsAt w s1 x) (hx : takeErr P x ≠ 0) :
    Calls Try.prog 41 #[.pointer (some ⟨bh, 0, none⟩), s1] w fun e w' => e = .returned (.tuple #[.int .i64 0, .int .i64 (takeErr P x)]) ∧ Below w.heap.size w w' := by
  obtain ⟨A, ca, rfl, -⟩ := h1.open_
  have HP1 := Lib.hid (proper_any w bh hg _ x h1)
  have d1 : (takeErr P x != 0) = true := by simp [hx]
  generalize takeErr P x = t at *
  clear hg h1 hx
  go_enter Try.func41, Try.ntmps41
  go_wp2_with fail
  refine HP1.out.mono ?_
  rintro e w1 ⟨rfl, hb⟩
  have HB := Lib.hid hb
  clear hb
  go_wp2_with fail
  go_ret2
  exact ⟨rfl, HB.out⟩

set_option maxRecDepth 100000 in
set_option maxHeartbeats 400000 in
theorem rankRef_bad {P : PcD} (w : World) (bh : Nat) (hg : RGrpAt w bh P) (s1 : Value) (x : List Int) (h1 : IntsAt w s1 x) (hx : takeErr P x ≠ 0) :
    Calls Try.prog 43 #[.pointer (some ⟨bh, 0, none⟩), s1] w fun e w' => e = .returned (.tuple #[.int .i64 0, .int .i64 (takeErr P x)]) ∧ Below w.heap.size w w' := by
  obtain ⟨A, ca, rfl, -⟩ := h1.open_
  have HP1 := Lib.hid (proper_any w bh hg _ x h1)
  have d1 : (takeErr P x != 0) = true := by simp [hx]
  generalize takeErr P x = t at *
  clear hg h1 hx
  go_enter Try.func43, Try.ntmps43
  go_wp2_with fail
  refine HP1.out.mono ?_
  rintro e w1 ⟨rfl, hb⟩
  have HB := Lib.hid hb
  clear hb
  go_wp2_with fail
  go_ret2
  exact ⟨rfl, HB.out⟩

set_option maxRecDepth 100000 in
set_option maxHeartbeats 400000 in
theorem powRef_bad {P : PcD} (w : World) (bh : Nat) (hg : RGrpAt w bh P) (s1 : Value) (x : List Int) (n : Int) (h1 : IntsAt w s1 x) (hx : takeErr P x ≠ 0) :
    Calls Try.prog 35 #[.pointer (some ⟨bh, 0, none⟩), s1, .int .i64 n] w fun e w' => e = .returned (.tuple #[.slice none 0 0, .int .i64 (takeErr P x)]) ∧ Below w.heap.size w w' := by
  obtain ⟨A, ca, rfl, -⟩ := h1.open_
  have HP1 := Lib.hid (proper_any w bh hg _ x h1)
  have d1 : (takeErr P x != 0) = true := by simp [hx]
  generalize takeErr P x = t at *
  clear hg h1 hx
  go_enter Try.func35, Try.ntmps35
  go_wp2_with fail
  refine HP1.out.mono ?_
  rintro e w1 ⟨rfl, hb⟩
  have HB := Lib.hid hb
  clear hb
  go_wp2_with fail
  go_ret2
  exact ⟨rfl, HB.out⟩

set_option maxRecDepth 100000 in
set_option maxHeartbeats 400000 in
theorem invRef_good {P : PcD} (hv : Valid P) (w : World) (bh : Nat) (hg : RGrpAt w bh P) (s1 : Value) (x : List Int) (h1 : IntsAt w s1 x) (hx : takeErr P x = 0) :
    Calls Try.prog 33 #[.pointer (some ⟨bh, 0, none⟩), s1] w (ListRet (invP P x) w) := by
  obtain ⟨A, ca, rfl, -⟩ := h1.open_
  have HP1 := Lib.hid (proper_any w bh hg _ x h1)
  rw [hx] at HP1
  have HG := Lib.hid hg
  have H1 := Lib.hid h1
  have HX := Lib.hid (takeErr_NV hx)
  clear hg h1 hx
  go_enter Try.func33, Try.ntmps33
  go_wp2_with fail
  refine HP1.out.mono ?_
  rintro e w1 ⟨rfl, hb⟩
  have HK := Lib.hid (invRef_any hv w1 bh (HG.out.below hb) _ x (H1.out.below hb) HX.out)
  have HB := Lib.hid hb
  clear hb
  go_wp2_with fail
  refine HK.out.mono ?_
  rintro e w2 ⟨⟨u, rfl, hi⟩, hb⟩
  obtain ⟨A2, c2, rfl, -⟩ := hi.open_
  have HI := Lib.hid hi
  have HB := Lib.hid (HB.out.trans (hb.mono HB.out.size))
  clear hi hb
  go_wp2_with fail
  go_ret2
  exact ⟨⟨_, rfl, HI.out⟩, HB.out⟩

set_option maxRecDepth 100000 in
set_option maxHeartbeats 400000 in
theorem perMRef_good {P : PcD} (hv : Valid P) (hc : consB P = true) (hp : prod P P.n ≤ 50000) (w : World) (bh : Nat) (hg : RGrpAt w bh P) (s1 : Value) (x : List Int) (h1 : IntsAt w s1 x) (hx : takeErr P x = 0) :
    Calls Try.prog 41 #[.pointer (some ⟨bh, 0, none⟩), s1] w (NumRet P x w) := by
  obtain ⟨A, ca, rfl, -⟩ := h1.open_
  have HP1 := Lib.hid (proper_any w bh hg _ x h1)
  rw [hx] at HP1
  have HG := Lib.hid hg
  have H1 := Lib.hid h1
  have HX := Lib.hid (takeErr_NV hx)
  clear hg h1 hx
  go_enter Try.func41, Try.ntmps41
  go_wp2_with fail
  refine HP1.out.mono ?_
  rintro e w1 ⟨rfl, hb⟩
  have HK := Lib.hid (perRef_any hv hc hp w1 bh (HG.out.below hb) _ x (H1.out.below hb) HX.out)
  have HB := Lib.hid hb
  clear hb
  go_wp2_with fail
  refine HK.out.mono ?_
  rintro e w2 ⟨⟨k, hk, hk5, rfl⟩, hb⟩
  have HI := Lib.hid hk
  have HB := Lib.hid (HB.out.trans (hb.mono HB.out.size))
  clear hk hb
  go_wp2_with fail
  go_ret2
  exact ⟨⟨k, HI.out, hk5, rfl⟩, HB.out⟩

set_option maxRecDepth 100000 in
set_option maxHeartbeats 2000000 in
theorem rankRef_good {P : PcD} (hv : Valid P) (hs : Small P) (w : World) (bh : Nat) (hg : RGrpAt w bh P) (s1 : Value) (x : List Int) (h1 : IntsAt w s1 x) (hx : takeErr P x = 0) :
    Calls Try.prog 43 #[.pointer (some ⟨bh, 0, none⟩), s1] w fun e w' => e = .returned (.tuple #[.int .i64 (rk P x P.n), .int .i64 0]) ∧ Below w.heap.size w w' := by
  have hnx := takeErr_NV hx
  obtain ⟨A, ca, rfl, hx1, hx2, hxc⟩ := h1.open_
  have HP1 := Lib.hid (proper_any w bh hg _ x h1)
  rw [hx] at HP1
  have HG := Lib.hid hg
  have H1 := Lib.hid h1
  have HX := Lib.hid hnx
  have hxl := hnx.1
  have HXC := Lib.hid hxc
  have h12 := hv.n12
  obtain ⟨A0, c0, A1, c1, A2, c2, hh, hP, hc0, hc1⟩ := hg.open_
  have HOR := Lib.hid hP
  have HH := Lib.hid hh
  clear hg h1 hx hnx hxc hh hP
  rw [hxl] at HP1 hx1 HXC
  rw [hxl]
  have HSM := Lib.hid hs
  clear hxl hs
  go_enter Try.func43, Try.ntmps43
  go_wp2_with fail
  refine HP1.out.mono ?_
  rintro e w1 ⟨rfl, hb⟩
  have HB := Lib.hid hb
  clear hb
  go_wp2_with fail
  go_loopw [7, 8] (fun s5 s6 wr => ∃ k : Nat, k ≤ P.n ∧ s6 = .int .i64 k ∧ s5 = .int .i64 (rk P x k) ∧ ∃ q, wr = w1.drewN q) (fun _ s _ => P.n - (intOf s).toNat)
  case atStart => exact ⟨0, Nat.zero_le _, rfl, rfl, 0, rfl⟩
  case round =>
    obtain ⟨k, hk, rfl, rfl, q, rfl⟩ := hrel
    by_cases hlt : k < P.n
    · obtain ⟨b, off, rfl, hc⟩ := HXC.out (by omega)
      have hkd := HB.out
      have hck := (KC.of_below hkd).cell (hc k (by omega))
      obtain ⟨b2, o2, rfl, hc2⟩ := ord_cell HOR.out hlt
      have hok := (KC.of_below hkd).cell hc2
      have hko := (row80 (row80_below HH.out hkd)).1
      have hbd := rk_bd hv HX.out (k + 1) (by omega)
      have hbd0 := rk_bd hv HX.out k (by omega)
      have hsm := HSM.out (k + 1) (by omega)
      have hsm0 := HSM.out k (by omega)
      have hxk := HX.out.2 k hlt
      have ho2 := hv.ord2 k hlt
      rw [rk_succ] at hbd
      have hm1 : 0 ≤ rk P x k * P.ord k := Int.mul_nonneg hbd0.1 (by omega)
      have HS := Lib.hid (rk_succ P x k)
      have hk0 : (0 : Int) ≤ (k : Int) := Int.natCast_nonneg _
      have hk1 : (k : Int) < (P.n : Int) := by omega
      have hk2 : (k : Int) < (P.orders.length : Int) := hk1
      generalize x.getD k 0 = z at *
      generalize rk P x k = a at *
      generalize P.ord k = y at *
      have hw1 : IntKind.i64.wrap (a * y) = a * y := IntWalk.i64_in _ (by omega)
      have hw2 : IntKind.i64.wrap (a * y + z) = a * y + z := IntWalk.i64_in _ (by omega)
      clear hbd hbd0 hsm hsm0 hm1 hc hc2 hkd
      go_wp2_with fail
      go_quiet (fail)
      go_wp2_with fail
      go_roundw
      case rel => exact ⟨k + 1, by omega, by go_num, by rw [HS.out], _, rfl⟩
      case measure => simp [intOf]; omega
    · obtain rfl : k = P.n := by omega
      go_wp2_with fail
      go_ret2
      exact ⟨rfl, below_drewN HB.out _⟩

theorem tmod_fix (n : Int) {k : Nat} (hk0 : (0 : Int) < (k : Int)) : (0 ≤ n.tmod k → n.tmod k = n % k) ∧ (n.tmod k < 0 → n.tmod k + k = n % k) := by
  have h3 : n.tmod k < k := Int.tmod_lt_of_pos _ hk0
  have h4 : -(k : Int) < n.tmod k := by
    have := Int.lt_tmod_of_pos n hk0
    omega
  have h8 : (n.tmod k + k).tmod k = n % k := by
    rw [Int.tmod_eq_emod_of_nonneg (by omega), Int.add_emod_right, Int.tmod_eq_emod]
    split
    · simp
    · rw [Int.sub_emod]; simp
  generalize n.tmod (k : Int) = t at *
  refine ⟨fun h => ?_, fun h => ?_⟩
  · rw [← h8, Int.tmod_eq_emod_of_nonneg (show 0 ≤ t + k by omega), Int.add_emod_right, Int.emod_eq_of_lt h h3]
  · rw [← h8, Int.tmod_eq_emod_of_nonneg (show 0 ≤ t + k by omega), Int.emod_eq_of_lt (by omega) (by omega)]

set_option maxRecDepth 100000 in
set_option maxHeartbeats 1000000 in
theorem powRef_good {P : PcD} (hv : Valid P) (hc : consB P = true) (hp : prod P P.n ≤ 50000) (w : World) (bh : Nat) (hg : RGrpAt w bh P) (s1 : Value) (x : List Int) (n : Int) (h1 : IntsAt w s1 x) (hx : takeErr P x = 0) (k : Nat) (hk : IsPer P x k) (hk5 : (k : Int) ≤ 50000) :
    Calls Try.prog 35 #[.pointer (some ⟨bh, 0, none⟩), s1, .int .i64 n] w (ListRet (npow P x (n % (k : Int)).toNat) w) := by
  have hnx := takeErr_NV hx
  have hxl := hnx.1
  have h12 := hv.n12
  have hkp := hk.pos
  have hk0 : (0 : Int) < (k : Int) := by omega
  have h5 := tmod_fix n hk0
  have h3 : n.tmod k < k := Int.tmod_lt_of_pos _ hk0
  have h4 : -(k : Int) < n.tmod k := by
    have := Int.lt_tmod_of_pos n hk0
    omega
  have h6 := Int.emod_nonneg n (show (k : Int) ≠ 0 by omega)
  have h7 := Int.emod_lt_of_pos n hk0
  obtain ⟨r, hr0⟩ := Int.eq_ofNat_of_zero_le h6
  have hrk : r ≤ 50000 := by omega
  rw [hr0] at h5
  rw [hr0, Int.toNat_natCast]
  clear h6 h7 hr0
  obtain ⟨A, ca, rfl, -⟩ := h1.open_
  have HP1 := Lib.hid (proper_any w bh hg _ x h1)
  rw [hx] at HP1
  rw [hxl] at HP1
  have HG := Lib.hid hg
  have H1 := Lib.hid h1
  have HX := Lib.hid hnx
  have HK := Lib.hid hk
  obtain ⟨A0, c0, A1, c1, A2, c2, hh, hP, hc0, hc1⟩ := hg.open_
  have HP := Lib.hid hP.pcB
  have HH := Lib.hid hh
  clear hh hP
  have HL := Lib.hid hxl
  have dk : ((k : Int) == 0) = false := beq_eq_false_iff_ne.2 (by omega)
  rw [hxl]
  clear hg h1 hx hnx hk hxl
  obtain ⟨h51, h52⟩ := h5
  have hk1 : (k : Int) ≤ 1000000 := by omega
  by_cases ht : n.tmod k < 0
  · have d1 : decide (n.tmod k < 0) = true := decide_eq_true ht
    have hw0 : IntKind.i64.wrap (n.tmod k + k) = n.tmod k + k := IntWalk.i64_in _ (by omega)
    have hw1 := h52 ht
    have HW1 := Lib.hid hw1
    clear hw1
    have hw1 := hw0
    clear h51 h52 h3 h4
    go_enter Try.func35, Try.ntmps35
    go_wp2_with fail
    refine HP1.out.mono ?_
    rintro e w1 ⟨rfl, hb⟩
    have HPR := Lib.hid (perRef_any hv hc hp w1 bh (HG.out.below hb) _ x (H1.out.below hb) HX.out)
    rw [HL.out] at HPR
    have HB := Lib.hid hb
    clear hb
    go_wp2_with fail
    refine HPR.out.mono ?_
    rintro e w2 ⟨⟨k2, hk2, -, rfl⟩, hb⟩
    obtain rfl := hk2.unique HK.out
    have HB := Lib.hid (HB.out.trans (hb.mono HB.out.size))
    have hmk := make22 w2 P.n (by omega)
    clear hk2 hb
    have HO : Hid (XsAt (w2.alloc (.cells (Array.replicate P.n (.int .i64 0)) 3)) w2.heap.size (zV P)) := Lib.hid (xsAt_zero w2 P.n)
    have HBO := Lib.hid (HB.out.trans (((Below.refl w2.heap.size w2).alloc (Nat.le_refl _) (.cells (Array.replicate P.n (.int .i64 0)) 3)).mono HB.out.size))
    have hob : w.heap.size ≤ w2.heap.size := HB.out.size
    go_wp2_with fail
    try rw [HW1.out]
    generalize w2.alloc (.cells (Array.replicate P.n (.int .i64 0)) 3) = W at *
    generalize w2.heap.size = ob at *
    clear hmk hw1 d1 dk
    go_loopw [11] (fun s wr => ∃ i : Nat, i ≤ r ∧ s = .int .i64 i ∧ XsAt wr ob (npow P x i) ∧ Below w.heap.size w wr) (fun s _ => r - (intOf s).toNat)
    case atStart => exact ⟨0, Nat.zero_le _, rfl, HO.out, HBO.out⟩
    case round =>
      obtain ⟨i, hi, rfl, hY, hB⟩ := hrel
      have hny := npow_NV hv (x := x) i
      obtain ⟨e0, e1, e2⟩ := row80 (row80_below HH.out hB)
      have HST := Lib.hid (npow_succ (P := P) x i)
      have hyi := hY.ints hny.1 (Nat.le_refl _) (by omega) (Pc.NV.fits hv hny)
      have hi0 : (0 : Int) ≤ (i : Int) := Int.natCast_nonneg _
      have HB := Lib.hid hB
      by_cases hlt : i < r
      · have HBY := Lib.hid (rby_ok hv P.n wr w.heap.size ob P.n _ _ _ _ (npow P x i) x (HP.out.below hB (Nat.le_refl _)) hob hY (Nat.le_refl _) (by omega) hny (H1.out.below hB) HX.out.1 (Pc.NV.small hv HX.out))
        rw [HL.out] at HBY
        clear hny hyi hY hB
        go_wp2_with fail
        refine HBY.out.mono ?_
        rintro e w6 ⟨rfl, hc6, hg6⟩
        have HC6 := Lib.hid hc6
        have HB6 := Lib.hid (HB.out.grown hg6 HB.out.size (fun k e => by cases e; omega))
        clear hc6 hg6
        go_wp2_with fail
        go_roundw
        case rel => exact ⟨i + 1, by omega, by go_num, HC6.out, HB6.out⟩
        case measure => simp [intOf]; omega
      · obtain rfl : i = r := by omega
        have HYI := Lib.hid hyi
        clear hny hyi hY hB
        go_wp2_with fail
        go_ret2
        exact ⟨⟨_, rfl, HYI.out⟩, HB.out⟩
  · have d1 : decide (n.tmod k < 0) = false := decide_eq_false ht
    have hw1 : n.tmod k = (r : Int) := h51 (by omega)
    have HW1 := Lib.hid hw1
    have hr0 : (0 : Int) ≤ (r : Int) := Int.natCast_nonneg _
    clear h51 h52 h3 h4 ht
    go_enter Try.func35, Try.ntmps35
    go_wp2_with fail
    refine HP1.out.mono ?_
    rintro e w1 ⟨rfl, hb⟩
    have HPR := Lib.hid (perRef_any hv hc hp w1 bh (HG.out.below hb) _ x (H1.out.below hb) HX.out)
    rw [HL.out] at HPR
    have HB := Lib.hid hb
    clear hb
    go_wp2_with fail
    refine HPR.out.mono ?_
    rintro e w2 ⟨⟨k2, hk2, -, rfl⟩, hb⟩
    obtain rfl := hk2.unique HK.out
    have HB := Lib.hid (HB.out.trans (hb.mono HB.out.size))
    have hmk := make22 w2 P.n (by omega)
    clear hk2 hb
    have HO : Hid (XsAt (w2.alloc (.cells (Array.replicate P.n (.int .i64 0)) 3)) w2.heap.size (zV P)) := Lib.hid (xsAt_zero w2 P.n)
    have HBO := Lib.hid (HB.out.trans (((Below.refl w2.heap.size w2).alloc (Nat.le_refl _) (.cells (Array.replicate P.n (.int .i64 0)) 3)).mono HB.out.size))
    have hob : w.heap.size ≤ w2.heap.size := HB.out.size
    go_wp2_with fail
    try rw [HW1.out]
    generalize w2.alloc (.cells (Array.replicate P.n (.int .i64 0)) 3) = W at *
    generalize w2.heap.size = ob at *
    clear hmk hw1 d1 dk
    go_loopw [11] (fun s wr => ∃ i : Nat, i ≤ r ∧ s = .int .i64 i ∧ XsAt wr ob (npow P x i) ∧ Below w.heap.size w wr) (fun s _ => r - (intOf s).toNat)
    case atStart => exact ⟨0, Nat.zero_le _, rfl, HO.out, HBO.out⟩
    case round =>
      obtain ⟨i, hi, rfl, hY, hB⟩ := hrel
      have hny := npow_NV hv (x := x) i
      obtain ⟨e0, e1, e2⟩ := row80 (row80_below HH.out hB)
      have HST := Lib.hid (npow_succ (P := P) x i)
      have hyi := hY.ints hny.1 (Nat.le_refl _) (by omega) (Pc.NV.fits hv hny)
      have hi0 : (0 : Int) ≤ (i : Int) := Int.natCast_nonneg _
      have HB := Lib.hid hB
      by_cases hlt : i < r
      · have HBY := Lib.hid (rby_ok hv P.n wr w.heap.size ob P.n _ _ _ _ (npow P x i) x (HP.out.below hB (Nat.le_refl _)) hob hY (Nat.le_refl _) (by omega) hny (H1.out.below hB) HX.out.1 (Pc.NV.small hv HX.out))
        rw [HL.out] at HBY
        clear hny hyi hY hB
        go_wp2_with fail
        refine HBY.out.mono ?_
        rintro e w6 ⟨rfl, hc6, hg6⟩
        have HC6 := Lib.hid hc6
        have HB6 := Lib.hid (HB.out.grown hg6 HB.out.size (fun k e => by cases e; omega))
        clear hc6 hg6
        go_wp2_with fail
        go_roundw
        case rel => exact ⟨i + 1, by omega, by go_num, HC6.out, HB6.out⟩
        case measure => simp [intOf]; omega
      · obtain rfl : i = r := by omega
        have HYI := Lib.hid hyi
        clear hny hyi hY hB
        go_wp2_with fail
        go_ret2
        exact ⟨⟨_, rfl, HYI.out⟩, HB.out⟩
end Go.Proofs
namespace Go.Proofs
open Go.RowKit Go.Proofs.Pc

set_option maxRecDepth 100000 in
set_option maxHeartbeats 400000 in
theorem elemRef_bad {P : PcD} (hs : Small P) (w : World) (bh : Nat) (hg : RGrpAt w bh P) (r : Int) (h : r < 0 ∨ prod P P.n ≤ r) :
    Calls Try.prog 39 #[.pointer (some ⟨bh, 0, none⟩), .int .i64 r] w fun e w' => e = .returned (.tuple #[.slice none 0 0, .int .i64 2]) ∧ w' = w := by
  by_cases h0 : r < 0
  · go_enter Try.func39, Try.ntmps39
    go_wp2_with fail
    go_ret2
    exact ⟨rfl, rfl⟩
  · have d1 : decide (r < 0) = false := decide_eq_false h0
    have d2 : decide (prod P P.n ≤ r) = true := decide_eq_true (by omega)
    go_enter Try.func39, Try.ntmps39
    go_wp2_with fail
    refine (order19_any hs w bh hg).mono ?_
    rintro e w' ⟨rfl, rfl⟩
    go_wp2_with fail
    go_ret2
    exact ⟨rfl, rfl⟩

set_option maxRecDepth 100000 in
set_option maxHeartbeats 1000000 in
theorem elemRef_good {P : PcD} (hv : Valid P) (hs : Small P) (w : World) (bh : Nat) (hg : RGrpAt w bh P) (r : Int) (h0 : 0 ≤ r) (h1 : r < prod P P.n) :
    Calls Try.prog 39 #[.pointer (some ⟨bh, 0, none⟩), .int .i64 r] w (ListRet (elP P r) w) := by
  have d1 : decide (r < 0) = false := decide_eq_false (by omega)
  have d2 : decide (prod P P.n ≤ r) = false := decide_eq_false (by omega)
  have h12 := hv.n12
  have HG := Lib.hid hg
  have HOD := Lib.hid (order19_any hs w bh hg)
  obtain ⟨A0, c0, A1, c1, A2, c2, hh, hP, hc0, hc1⟩ := hg.open_
  obtain ⟨k0, k1, k2⟩ := row80 hh
  have HP := Lib.hid hP
  have HH := Lib.hid hh
  have hbh : bh < w.heap.size := (Array.getElem?_eq_some_iff.1 hh).1
  have hmk := make22 w P.orders.length (show P.n ≤ 1000 by omega)
  have hal : Below w.heap.size w (w.alloc (.cells (Array.replicate P.orders.length (.int .i64 0)) 3)) := (Below.refl _ _).alloc (Nat.le_refl _) _
  have HO : Hid (XsAt (w.alloc (.cells (Array.replicate P.orders.length (.int .i64 0)) 3)) w.heap.size (zV P)) := Lib.hid (xsAt_zero w P.n)
  have hpl : P.orders.length ≤ 12 := h12
  have HB := Lib.hid hal
  clear hg hh hP hal
  go_enter Try.func39, Try.ntmps39
  go_wp2_with fail
  refine HOD.out.mono ?_
  rintro e w' ⟨rfl, rfl⟩
  go_wp2_with fail
  generalize w'.alloc (.cells (Array.replicate P.orders.length (.int .i64 0)) 3) = W at *
  have HEI := Lib.hid (elTo_inv hv h0 h1)
  go_loopw [1, 7] (fun s1 s7 wr => ∃ d : Nat, d ≤ P.n ∧ (∃ z : Int, s7 = .int .i64 z ∧ z = (P.n : Int) - 1 - d) ∧ s1 = .int .i64 (elTo P r d).2 ∧ XsAt wr w'.heap.size (elTo P r d).1 ∧ Below w'.heap.size w' wr) (fun _ s7 _ => (intOf s7 + 1).toNat)
  case atStart => exact ⟨0, Nat.zero_le _, ⟨_, rfl, by simp [PcD.n]⟩, rfl, HO.out, HB.out⟩
  case round =>
    obtain ⟨d, hd, ⟨z7, rfl, e7⟩, rfl, hY, hB⟩ := hrel
    obtain ⟨n1, n2, n3, -⟩ := HEI.out d hd
    have HN1 := Lib.hid n1
    have HY := Lib.hid hY
    have HBB := Lib.hid hB
    have HS := Lib.hid (elTo_succ P r d)
    have hwsz : w'.heap.size < wr.heap.size := hY.lt
    by_cases hlt : d < P.n
    · obtain ⟨i, hi⟩ : ∃ i, P.n - 1 - d = i := ⟨_, rfl⟩
      have hin : i < P.n := by omega
      obtain rfl : z7 = (i : Int) := by omega
      obtain ⟨b2, o2, rfl, hc2⟩ := ord_cell HP.out hin
      have hok := (KC.of_below hB).cell hc2
      obtain ⟨e0, e1, e2⟩ := row80 (row80_below HH.out hB)
      have hoi := hv.ord2 i hin
      rw [hi] at HS
      have hi0 : (0 : Int) ≤ (i : Int) := Int.natCast_nonneg _
      have hi1 : (i : Int) < (P.orders.length : Int) := by have : P.n = P.orders.length := rfl; omega
      have hcy := hY.cell (k := i) (by rw [n1.1]; exact hin)
      have hfy := hY.frozen i
      have hbg : bh ≠ w'.heap.size := by omega
      have hbr : b2 ≠ w'.heap.size := by have := World.block_lt_of_cell? _ _ hc2; simp at this; omega
      have hz5 := hs (P.n - d) (by omega)
      generalize (elTo P r d).2 = z at *
      generalize hvx : (elTo P r d).1 = v at *
      have HVX := Lib.hid hvx
      generalize P.ord i = y at *
      generalize hvi : v.getD i 0 = vi at *
      have HQ : Hid (IntKind.i64.wrap (z.tdiv y) = z / y) := Lib.hid (by
        rw [Int.tdiv_eq_ediv_of_nonneg n2]
        have h1 := Int.ediv_nonneg n2 (show 0 ≤ y by omega)
        have h2 := Int.ediv_le_self y n2
        exact IntWalk.i64_in _ (by omega))
      have HM : Hid (z.tmod y = z % y) := Lib.hid (Int.tmod_eq_emod_of_nonneg n2)
      have hida : i + 1 + d ≤ P.n := by omega
      have hidb : P.n ≤ i + 1 + d := by omega
      have hy0 : (y == 0) = false := beq_eq_false_iff_ne.2 (by omega)
      have hy1 : y ≠ 0 := by omega
      clear n1 hY hB e7 n3 hi hvx hvi
      go_wp2_with fail
      go_roundw
      case rel =>
        have e1 : (elTo P r (d + 1)).2 = z / y := by rw [HS.out]
        have e2 : (elTo P r (d + 1)).1 = v.set i (z % y) := by rw [HS.out]
        have e3 : wrap64 (z.tdiv y) = z / y := (IntWalk.i64_left _).symm.trans HQ.out
        refine ⟨d + 1, by omega, ⟨_, rfl, by push_cast; omega⟩, by rw [e1, e3], ?_, HBB.out.setCell (p := ⟨w'.heap.size, i, none⟩) (Nat.le_refl _) _⟩
        rw [e2]
        exact HY.out.set (by rw [HN1.out.1]; exact hin) _
      case measure => simp [intOf]
    · obtain rfl : d = P.n := by omega
      obtain rfl : z7 = -1 := by omega
      have HE : Hid (IntsAt wr (.slice (some ⟨w'.heap.size, 0, none⟩) P.orders.length P.orders.length) (elP P r)) := Lib.hid (hY.ints n1.1 (Nat.le_refl _) (by omega) (Pc.NV.fits hv n1))
      clear n1 n2 n3 e7 hY hB
      go_wp2_with fail
      go_ret2
      exact ⟨⟨_, rfl, HE.out⟩, HBB.out⟩
end Go.Proofs
