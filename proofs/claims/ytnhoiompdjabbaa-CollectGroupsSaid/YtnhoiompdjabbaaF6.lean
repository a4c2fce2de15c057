/- The walk of CollectGroups. -/
import Derived.Test.YtnhoiompdjabbaaF4
import Derived.Test.YtnhoiompdjabbaaF5
import Derived.Test.YtnhoiompdjabbaaA16
namespace Go.Proofs
open Go.RowKit Go.Proofs.Pc

set_option maxRecDepth 100000 in
set_option maxHeartbeats 8000000 in
theorem grs_walk (w : World) (which : Int) (v0 v1 v2 : Value) (P : PcD) (sx sy : Value) (x y : List Int) (n : Int) (sw : Value) (ws : List Int) (hw : -9223372036854775808 ≤ which ∧ which ≤ 9223372036854775807)
    (hP : PcAt w v0 v1 v2 P) (hx : IntsAt w sx x) (hy : IntsAt w sy y) (hws : IntsAt w sw ws) :
    Calls Try.prog 5 #[.int .i64 which, .agg #[v0, v1, v2], sx, sy, .int .i64 n, sw] w fun e w' => e = .returned (.bool true) ∧ Below w.heap.size w w' := by
  obtain ⟨⟨A0, c0, rfl⟩, ⟨A1, c1, rfl⟩, A2, c2, rfl⟩ := pc_slices hP
  obtain ⟨X1, x1, rfl, -⟩ := hx.open_
  obtain ⟨X2, x2, rfl, -⟩ := hy.open_
  obtain ⟨X3, x3, rfl, -⟩ := hws.open_
  have HP := Lib.hid hP
  have HX := Lib.hid hx
  have HY := Lib.hid hy
  have HWS := Lib.hid hws
  have HD : Hid (Bd w (.slice A0 P.orders.length c0) (.slice A1 P.powers.length c1) (.slice A2 P.conj.length c2) (w.alloc (.cells #[.slice A0 P.orders.length c0, .slice A1 P.powers.length c1, .slice A2 P.conj.length c2] 26))) := Lib.hid ⟨(Below.refl _ _).alloc (Nat.le_refl _) _, heap_alloc_new w _⟩
  clear hP hx hy hws
  by_cases g0 : 20 < x.length
  · have d20 : decide ((20 : Int) < (x.length : Int)) = true := decide_eq_true (by omega)
    go_enter Try.func5, Try.ntmps5
    go_wp2_with fail
    refine (awake_any _).mono ?_
    rintro e wz ⟨rfl, hb⟩
    have HF := Lib.hid (HD.out.below.trans (hb.mono HD.out.below.size))
    clear hb
    go_wp2_with fail
    go_ret
    exact ⟨rfl, HF.out⟩
  have d20 : decide ((20 : Int) < (x.length : Int)) = false := decide_eq_false (by omega)
  by_cases g1 : 20 < y.length
  · have d21 : decide ((20 : Int) < (y.length : Int)) = true := decide_eq_true (by omega)
    go_enter Try.func5, Try.ntmps5
    go_wp2_with fail
    refine (awake_any _).mono ?_
    rintro e wz ⟨rfl, hb⟩
    have HF := Lib.hid (HD.out.below.trans (hb.mono HD.out.below.size))
    clear hb
    go_wp2_with fail
    go_ret
    exact ⟨rfl, HF.out⟩
  have d21 : decide ((20 : Int) < (y.length : Int)) = false := decide_eq_false (by omega)
  by_cases g2 : 40 < ws.length
  · have d22 : decide ((40 : Int) < (ws.length : Int)) = true := decide_eq_true (by omega)
    go_enter Try.func5, Try.ntmps5
    go_wp2_with fail
    refine (awake_any _).mono ?_
    rintro e wz ⟨rfl, hb⟩
    have HF := Lib.hid (HD.out.below.trans (hb.mono HD.out.below.size))
    clear hb
    go_wp2_with fail
    go_ret
    exact ⟨rfl, HF.out⟩
  have d22 : decide ((40 : Int) < (ws.length : Int)) = false := decide_eq_false (by omega)
  by_cases h2 : which.tmod 2 = 0
  · have d9 : (which.tmod 2 == 0) = true := beq_iff_eq.2 h2
    have hw2 : -9223372036854775808 ≤ which.tdiv 2 ∧ which.tdiv 2 ≤ 9223372036854775807 := by have := Int.mul_tdiv_add_tmod which 2; omega
    obtain ⟨K, hK⟩ : ∃ K, K = knownD ((which.tdiv 2) % 12).toNat := ⟨_, rfl⟩
    have HKE := Lib.hid hK
    clear hK
    go_enter Try.func5, Try.ntmps5
    go_wp2_with fail
    refine (vast_any _ _ _ _ P (HP.out.below HD.out.below)).mono ?_
    rintro e w1 ⟨⟨b1, rfl⟩, hb⟩
    have HD := Lib.hid (HD.out.step hb)
    have k0 := HD.out.c0
    have k1 := HD.out.c1
    have k2 := HD.out.c2
    clear hb
    cases b1
    case true =>
      go_wp2_with fail
      refine (awake_any _).mono ?_
      rintro e wz ⟨rfl, hb⟩
      have HF := Lib.hid (HD.out.below.trans (hb.mono HD.out.below.size))
      clear hb
      go_wp2_with fail
      go_ret
      exact ⟨rfl, HF.out⟩
    go_wp2_with fail
    refine (heavy_any _ _ _ _ P (HP.out.below HD.out.below)).mono ?_
    rintro e w1 ⟨⟨b2, rfl⟩, hb⟩
    have HD := Lib.hid (HD.out.step hb)
    have k0 := HD.out.c0
    have k1 := HD.out.c1
    have k2 := HD.out.c2
    clear hb
    cases b2
    case true =>
      go_wp2_with fail
      refine (awake_any _).mono ?_
      rintro e wz ⟨rfl, hb⟩
      have HF := Lib.hid (HD.out.below.trans (hb.mono HD.out.below.size))
      clear hb
      go_wp2_with fail
      go_ret
      exact ⟨rfl, HF.out⟩
    go_wp2_with fail
    have hlt1 : w.heap.size < w1.heap.size := (Array.getElem?_eq_some_iff.1 HD.out.box).1
    refine (knownF_any _ (which.tdiv 2) hw2).mono ?_
    rw [← HKE.out]
    rintro e w2 ⟨⟨u0, u1, u2, rfl, hp⟩, hb⟩
    obtain ⟨⟨B0, d0, rfl⟩, ⟨B1, d1, rfl⟩, B2, d2, rfl⟩ := pc_slices (hp w2 (fun _ _ _ => rfl))
    have HD := Lib.hid (HD.out.step hb)
    have hbox := HD.out.box
    have k0 := HD.out.c0
    have k1 := HD.out.c1
    have k2 := HD.out.c2
    have hfz : ∀ k, w2.frozen? ⟨w.heap.size, k, none⟩ = false := fun k => by simp [World.frozen?, hbox]
    have fz0 := hfz 0
    have fz1 := hfz 1
    have fz2 := hfz 2
    have HFAR := Lib.hid hp
    have HBX := Lib.hid hbox
    clear hp hb hfz hbox
    go_wp2_with fail
    obtain ⟨W3, hW3⟩ : ∃ W3, W3 = ((w2.setCell ⟨w.heap.size, 0, none⟩ (.slice B0 K.orders.length d0)).setCell ⟨w.heap.size, 1, none⟩ (.slice B1 K.powers.length d1)).setCell ⟨w.heap.size, 2, none⟩ (.slice B2 K.conj.length d2) := ⟨_, rfl⟩
    have HPK : Hid (PcAt W3 (.slice B0 K.orders.length d0) (.slice B1 K.powers.length d1) (.slice B2 K.conj.length d2) K) := Lib.hid (HFAR.out W3 (fun k h1 h2 => by
      have hne : k ≠ w.heap.size := by omega
      rw [hW3]
      exact (Below.heap_setCell _ ⟨w.heap.size, 2, none⟩ _ k hne).trans ((Below.heap_setCell _ ⟨w.heap.size, 1, none⟩ _ k hne).trans (Below.heap_setCell _ ⟨w.heap.size, 0, none⟩ _ k hne))))
    have HD : Hid (Bd w (.slice B0 K.orders.length d0) (.slice B1 K.powers.length d1) (.slice B2 K.conj.length d2) W3) := Lib.hid ⟨by rw [hW3]; exact ((HD.out.below.setCell (p := ⟨w.heap.size, 0, none⟩) (Nat.le_refl _) _).setCell (p := ⟨w.heap.size, 1, none⟩) (Nat.le_refl _) _).setCell (p := ⟨w.heap.size, 2, none⟩) (Nat.le_refl _) _, by rw [hW3]; simp [World.setCell, Array.getElem?_modify, HBX.out]⟩
    rw [← hW3]
    clear hW3 k0 k1 k2 fz0 fz1 fz2 hlt1
    by_cases he : (checkD K).1 = 0
    case neg =>
      have d17 : ((checkD K).1 != 0) = true := by simp [he]
      have HN := Lib.hid (new17_bad _ _ _ _ HPK.out he)
      generalize (checkD K).1 = ec at *
      clear he
      refine HN.out.mono ?_
      rintro e w3 ⟨rfl, hb⟩
      have HF := Lib.hid (HD.out.below.trans (hb.mono HD.out.below.size))
      clear hb
      go_wp2_with fail
      refine (awake_any _).mono ?_
      rintro e wz ⟨rfl, hb⟩
      have HF := Lib.hid (HF.out.trans (hb.mono HF.out.size))
      clear hb
      go_wp2_with fail
      go_ret
      exact ⟨rfl, HF.out⟩
    cases hc : consB K
    case false =>
      refine (new17_inc _ _ _ _ HPK.out he hc).mono ?_
      rintro e w3 ⟨rfl, hb⟩
      have HF := Lib.hid (HD.out.below.trans (hb.mono HD.out.below.size))
      clear hb
      go_wp2_with fail
      refine (awake_any _).mono ?_
      rintro e wz ⟨rfl, hb⟩
      have HF := Lib.hid (HF.out.trans (hb.mono HF.out.size))
      clear hb
      go_wp2_with fail
      go_ret
      exact ⟨rfl, HF.out⟩
    have hv := valid_of_check he
    have hs := small_of_check he
    have hp : prod K K.n ≤ 50000 := (prod_bd K.n (checkD_ok he).2.2.1 (checkD_ok he).2.1 (Nat.le_refl _)).2
    obtain ⟨kx, hk⟩ := perOf_ex hv hc hp x
    obtain ⟨ee, ez, hel, hem⟩ := ev_LM (P := K) hv ws (by omega)
    refine (new17_good _ _ _ _ HPK.out he hc).mono ?_
    rintro e w3 ⟨⟨bh, rfl, hgh⟩, hb⟩
    have HPK := Lib.hid (HPK.out.below hb)
    have HD := Lib.hid (HD.out.step hb)
    have k0 := HD.out.c0
    have k1 := HD.out.c1
    have k2 := HD.out.c2
    have HGH := Lib.hid hgh
    have HE := Lib.hid he
    have HC := Lib.hid hc
    clear hgh hb he hc
    go_wp2_with fail
    refine (new_good _ _ _ _ _ HPK.out HE.out HC.out).mono ?_
    rintro e w4 ⟨⟨bg, br, rfl, hg, -⟩, hb⟩
    have HG := Lib.hid hg
    have HGH := Lib.hid (HGH.out.below hb)
    have HF := Lib.hid (HD.out.below.trans (hb.mono HD.out.below.size))
    have HX := Lib.hid (HX.out.below HF.out)
    have HY := Lib.hid (HY.out.below HF.out)
    have HWS := Lib.hid (HWS.out.below HF.out)
    clear hg hb k0 k1 k2
    have H29 := Lib.hid (fun w bg br s1 s2 (h : GrpAt w bg br K) (h1 : IntsAt w s1 x) (h2 : IntsAt w s2 y) => mul_L w bg br s1 s2 x y h h2 hv h1)
    have H30 := Lib.hid (fun w bh s1 s2 (h : RGrpAt w bh K) (h1 : IntsAt w s1 x) (h2 : IntsAt w s2 y) => mul_M w bh s1 s2 x y h h2 hv h1)
    have H32 := Lib.hid (fun w bg br s1 (h : GrpAt w bg br K) (h1 : IntsAt w s1 x) => inv_L w bg br s1 x h hv h1)
    have H33 := Lib.hid (fun w bh s1 (h : RGrpAt w bh K) (h1 : IntsAt w s1 x) => inv_M w bh s1 x h hv h1)
    have H34 := Lib.hid (fun w bg br s1 (h : GrpAt w bg br K) (h1 : IntsAt w s1 x) => pow_L w bg br s1 x h hv HC.out hp h1 n kx hk)
    have H35 := Lib.hid (fun w bh s1 (h : RGrpAt w bh K) (h1 : IntsAt w s1 x) => pow_M w bh s1 x h hv HC.out hp h1 n kx hk)
    have H36 := Lib.hid hel
    have H37 := Lib.hid hem
    have H38 := Lib.hid (fun w bg br (h : GrpAt w bg br K) => el_L w bg br h hv hs n)
    have H39 := Lib.hid (fun w bh (h : RGrpAt w bh K) => el_M w bh h hv hs n)
    have H40 := Lib.hid (fun w bg br s1 (h : GrpAt w bg br K) (h1 : IntsAt w s1 x) => per_L w bg br s1 x h hv HC.out hp h1 kx hk)
    have H41 := Lib.hid (fun w bh s1 (h : RGrpAt w bh K) (h1 : IntsAt w s1 x) => per_M w bh s1 x h hv HC.out hp h1 kx hk)
    have H42 := Lib.hid (fun w bg br s1 (h : GrpAt w bg br K) (h1 : IntsAt w s1 x) => rk_L w bg br s1 x h hv hs h1)
    have H43 := Lib.hid (fun w bh s1 (h : RGrpAt w bh K) (h1 : IntsAt w s1 x) => rk_M w bh s1 x h hv hs h1)
    clear hel hem hv hs hp hk
    generalize mulErr K x y = f1 at *
    generalize mulZ K x y = z1 at *
    generalize invZ K x = z2 at *
    generalize powZ K x n kx = z3 at *
    generalize elE K n = f4 at *
    generalize elZ K n = z4 at *
    generalize perZ K x kx = f5 at *
    generalize rkZ K x = f6 at *
    generalize takeErr K x = f2 at *
    go_wp2_with fail
    refine (H29.out _ bg br _ _ HG.out HX.out HY.out).mono ?_
    rintro e wn ⟨⟨u, rfl, hz⟩, hb⟩
    obtain ⟨Az, cz, rfl, -⟩ := hz.open_
    have HG := Lib.hid (HG.out.below hb)
    have HGH := Lib.hid (HGH.out.below hb)
    have HX := Lib.hid (HX.out.below hb)
    have HY := Lib.hid (HY.out.below hb)
    have HWS := Lib.hid (HWS.out.below hb)
    have HF := Lib.hid (HF.out.trans (hb.mono HF.out.size))
    clear hb
    have HZa := Lib.hid hz
    clear hz
    go_wp2_with fail
    refine (H30.out _ bh _ _ HGH.out HX.out HY.out).mono ?_
    rintro e wn ⟨⟨u, rfl, hz⟩, hb⟩
    obtain ⟨Az, cz, rfl, -⟩ := hz.open_
    have HG := Lib.hid (HG.out.below hb)
    have HGH := Lib.hid (HGH.out.below hb)
    have HX := Lib.hid (HX.out.below hb)
    have HY := Lib.hid (HY.out.below hb)
    have HWS := Lib.hid (HWS.out.below hb)
    have HZa := Lib.hid (HZa.out.below hb)
    have HF := Lib.hid (HF.out.trans (hb.mono HF.out.size))
    clear hb
    have HZb := Lib.hid hz
    clear hz
    go_wp2_with fail
    refine (equal_yes _ _ _ _ _ HZa.out HZb.out rfl).mono ?_
    rintro e wn ⟨rfl, hb⟩
    have HG := Lib.hid (HG.out.below hb)
    have HGH := Lib.hid (HGH.out.below hb)
    have HX := Lib.hid (HX.out.below hb)
    have HY := Lib.hid (HY.out.below hb)
    have HWS := Lib.hid (HWS.out.below hb)
    have HF := Lib.hid (HF.out.trans (hb.mono HF.out.size))
    clear hb
    clear HZa HZb
    go_wp2_with fail
    refine (H32.out _ bg br _ HG.out HX.out).mono ?_
    rintro e wn ⟨⟨u, rfl, hz⟩, hb⟩
    obtain ⟨Az, cz, rfl, -⟩ := hz.open_
    have HG := Lib.hid (HG.out.below hb)
    have HGH := Lib.hid (HGH.out.below hb)
    have HX := Lib.hid (HX.out.below hb)
    have HY := Lib.hid (HY.out.below hb)
    have HWS := Lib.hid (HWS.out.below hb)
    have HF := Lib.hid (HF.out.trans (hb.mono HF.out.size))
    clear hb
    have HZa := Lib.hid hz
    clear hz
    go_wp2_with fail
    refine (H33.out _ bh _ HGH.out HX.out).mono ?_
    rintro e wn ⟨⟨u, rfl, hz⟩, hb⟩
    obtain ⟨Az, cz, rfl, -⟩ := hz.open_
    have HG := Lib.hid (HG.out.below hb)
    have HGH := Lib.hid (HGH.out.below hb)
    have HX := Lib.hid (HX.out.below hb)
    have HY := Lib.hid (HY.out.below hb)
    have HWS := Lib.hid (HWS.out.below hb)
    have HZa := Lib.hid (HZa.out.below hb)
    have HF := Lib.hid (HF.out.trans (hb.mono HF.out.size))
    clear hb
    have HZb := Lib.hid hz
    clear hz
    go_wp2_with fail
    refine (equal_yes _ _ _ _ _ HZa.out HZb.out rfl).mono ?_
    rintro e wn ⟨rfl, hb⟩
    have HG := Lib.hid (HG.out.below hb)
    have HGH := Lib.hid (HGH.out.below hb)
    have HX := Lib.hid (HX.out.below hb)
    have HY := Lib.hid (HY.out.below hb)
    have HWS := Lib.hid (HWS.out.below hb)
    have HF := Lib.hid (HF.out.trans (hb.mono HF.out.size))
    clear hb
    clear HZa HZb
    go_wp2_with fail
    refine (H34.out _ bg br _ HG.out HX.out).mono ?_
    rintro e wn ⟨⟨u, rfl, hz⟩, hb⟩
    obtain ⟨Az, cz, rfl, -⟩ := hz.open_
    have HG := Lib.hid (HG.out.below hb)
    have HGH := Lib.hid (HGH.out.below hb)
    have HX := Lib.hid (HX.out.below hb)
    have HY := Lib.hid (HY.out.below hb)
    have HWS := Lib.hid (HWS.out.below hb)
    have HF := Lib.hid (HF.out.trans (hb.mono HF.out.size))
    clear hb
    have HZa := Lib.hid hz
    clear hz
    go_wp2_with fail
    refine (H35.out _ bh _ HGH.out HX.out).mono ?_
    rintro e wn ⟨⟨u, rfl, hz⟩, hb⟩
    obtain ⟨Az, cz, rfl, -⟩ := hz.open_
    have HG := Lib.hid (HG.out.below hb)
    have HGH := Lib.hid (HGH.out.below hb)
    have HX := Lib.hid (HX.out.below hb)
    have HY := Lib.hid (HY.out.below hb)
    have HWS := Lib.hid (HWS.out.below hb)
    have HZa := Lib.hid (HZa.out.below hb)
    have HF := Lib.hid (HF.out.trans (hb.mono HF.out.size))
    clear hb
    have HZb := Lib.hid hz
    clear hz
    go_wp2_with fail
    refine (equal_yes _ _ _ _ _ HZa.out HZb.out rfl).mono ?_
    rintro e wn ⟨rfl, hb⟩
    have HG := Lib.hid (HG.out.below hb)
    have HGH := Lib.hid (HGH.out.below hb)
    have HX := Lib.hid (HX.out.below hb)
    have HY := Lib.hid (HY.out.below hb)
    have HWS := Lib.hid (HWS.out.below hb)
    have HF := Lib.hid (HF.out.trans (hb.mono HF.out.size))
    clear hb
    clear HZa HZb
    go_wp2_with fail
    refine (H36.out _ bg br _ HG.out HWS.out).mono ?_
    rintro e wn ⟨⟨u, rfl, hz⟩, hb⟩
    obtain ⟨Az, cz, rfl, -⟩ := hz.open_
    have HG := Lib.hid (HG.out.below hb)
    have HGH := Lib.hid (HGH.out.below hb)
    have HX := Lib.hid (HX.out.below hb)
    have HY := Lib.hid (HY.out.below hb)
    have HWS := Lib.hid (HWS.out.below hb)
    have HF := Lib.hid (HF.out.trans (hb.mono HF.out.size))
    clear hb
    have HZa := Lib.hid hz
    clear hz
    go_wp2_with fail
    refine (H37.out _ bh _ HGH.out HWS.out).mono ?_
    rintro e wn ⟨⟨u, rfl, hz⟩, hb⟩
    obtain ⟨Az, cz, rfl, -⟩ := hz.open_
    have HG := Lib.hid (HG.out.below hb)
    have HGH := Lib.hid (HGH.out.below hb)
    have HX := Lib.hid (HX.out.below hb)
    have HY := Lib.hid (HY.out.below hb)
    have HWS := Lib.hid (HWS.out.below hb)
    have HZa := Lib.hid (HZa.out.below hb)
    have HF := Lib.hid (HF.out.trans (hb.mono HF.out.size))
    clear hb
    have HZb := Lib.hid hz
    clear hz
    go_wp2_with fail
    refine (equal_yes _ _ _ _ _ HZa.out HZb.out rfl).mono ?_
    rintro e wn ⟨rfl, hb⟩
    have HG := Lib.hid (HG.out.below hb)
    have HGH := Lib.hid (HGH.out.below hb)
    have HX := Lib.hid (HX.out.below hb)
    have HY := Lib.hid (HY.out.below hb)
    have HWS := Lib.hid (HWS.out.below hb)
    have HF := Lib.hid (HF.out.trans (hb.mono HF.out.size))
    clear hb
    clear HZa HZb
    go_wp2_with fail
    refine (H38.out _ bg br HG.out).mono ?_
    rintro e wn ⟨⟨u, rfl, hz⟩, hb⟩
    obtain ⟨Az, cz, rfl, -⟩ := hz.open_
    have HG := Lib.hid (HG.out.below hb)
    have HGH := Lib.hid (HGH.out.below hb)
    have HX := Lib.hid (HX.out.below hb)
    have HY := Lib.hid (HY.out.below hb)
    have HWS := Lib.hid (HWS.out.below hb)
    have HF := Lib.hid (HF.out.trans (hb.mono HF.out.size))
    clear hb
    have HZa := Lib.hid hz
    clear hz
    go_wp2_with fail
    refine (H39.out _ bh HGH.out).mono ?_
    rintro e wn ⟨⟨u, rfl, hz⟩, hb⟩
    obtain ⟨Az, cz, rfl, -⟩ := hz.open_
    have HG := Lib.hid (HG.out.below hb)
    have HGH := Lib.hid (HGH.out.below hb)
    have HX := Lib.hid (HX.out.below hb)
    have HY := Lib.hid (HY.out.below hb)
    have HWS := Lib.hid (HWS.out.below hb)
    have HZa := Lib.hid (HZa.out.below hb)
    have HF := Lib.hid (HF.out.trans (hb.mono HF.out.size))
    clear hb
    have HZb := Lib.hid hz
    clear hz
    go_wp2_with fail
    refine (equal_yes _ _ _ _ _ HZa.out HZb.out rfl).mono ?_
    rintro e wn ⟨rfl, hb⟩
    have HG := Lib.hid (HG.out.below hb)
    have HGH := Lib.hid (HGH.out.below hb)
    have HX := Lib.hid (HX.out.below hb)
    have HY := Lib.hid (HY.out.below hb)
    have HWS := Lib.hid (HWS.out.below hb)
    have HF := Lib.hid (HF.out.trans (hb.mono HF.out.size))
    clear hb
    clear HZa HZb
    go_wp2_with fail
    refine (H40.out _ bg br _ HG.out HX.out).mono ?_
    rintro e wn ⟨rfl, hb⟩
    have HG := Lib.hid (HG.out.below hb)
    have HGH := Lib.hid (HGH.out.below hb)
    have HX := Lib.hid (HX.out.below hb)
    have HY := Lib.hid (HY.out.below hb)
    have HWS := Lib.hid (HWS.out.below hb)
    have HF := Lib.hid (HF.out.trans (hb.mono HF.out.size))
    clear hb
    go_wp2_with fail
    refine (H41.out _ bh _ HGH.out HX.out).mono ?_
    rintro e wn ⟨rfl, hb⟩
    have HG := Lib.hid (HG.out.below hb)
    have HGH := Lib.hid (HGH.out.below hb)
    have HX := Lib.hid (HX.out.below hb)
    have HY := Lib.hid (HY.out.below hb)
    have HWS := Lib.hid (HWS.out.below hb)
    have HF := Lib.hid (HF.out.trans (hb.mono HF.out.size))
    clear hb
    go_wp2_with fail
    refine (H42.out _ bg br _ HG.out HX.out).mono ?_
    rintro e wn ⟨rfl, hb⟩
    have HG := Lib.hid (HG.out.below hb)
    have HGH := Lib.hid (HGH.out.below hb)
    have HX := Lib.hid (HX.out.below hb)
    have HY := Lib.hid (HY.out.below hb)
    have HWS := Lib.hid (HWS.out.below hb)
    have HF := Lib.hid (HF.out.trans (hb.mono HF.out.size))
    clear hb
    go_wp2_with fail
    refine (H43.out _ bh _ HGH.out HX.out).mono ?_
    rintro e wn ⟨rfl, hb⟩
    have HG := Lib.hid (HG.out.below hb)
    have HGH := Lib.hid (HGH.out.below hb)
    have HX := Lib.hid (HX.out.below hb)
    have HY := Lib.hid (HY.out.below hb)
    have HWS := Lib.hid (HWS.out.below hb)
    have HF := Lib.hid (HF.out.trans (hb.mono HF.out.size))
    clear hb
    go_wp2_with fail
    refine (awake_any _).mono ?_
    rintro e wz ⟨rfl, hb⟩
    have HF := Lib.hid (HF.out.trans (hb.mono HF.out.size))
    clear hb
    go_wp2_with fail
    go_ret
    exact ⟨rfl, HF.out⟩
  · have d9 : (which.tmod 2 == 0) = false := beq_eq_false_iff_ne.2 h2
    go_enter Try.func5, Try.ntmps5
    go_wp2_with fail
    refine (vast_any _ _ _ _ P (HP.out.below HD.out.below)).mono ?_
    rintro e w1 ⟨⟨b1, rfl⟩, hb⟩
    have HD := Lib.hid (HD.out.step hb)
    have k0 := HD.out.c0
    have k1 := HD.out.c1
    have k2 := HD.out.c2
    clear hb
    cases b1
    case true =>
      go_wp2_with fail
      refine (awake_any _).mono ?_
      rintro e wz ⟨rfl, hb⟩
      have HF := Lib.hid (HD.out.below.trans (hb.mono HD.out.below.size))
      clear hb
      go_wp2_with fail
      go_ret
      exact ⟨rfl, HF.out⟩
    go_wp2_with fail
    refine (heavy_any _ _ _ _ P (HP.out.below HD.out.below)).mono ?_
    rintro e w1 ⟨⟨b2, rfl⟩, hb⟩
    have HD := Lib.hid (HD.out.step hb)
    have k0 := HD.out.c0
    have k1 := HD.out.c1
    have k2 := HD.out.c2
    clear hb
    cases b2
    case true =>
      go_wp2_with fail
      refine (awake_any _).mono ?_
      rintro e wz ⟨rfl, hb⟩
      have HF := Lib.hid (HD.out.below.trans (hb.mono HD.out.below.size))
      clear hb
      go_wp2_with fail
      go_ret
      exact ⟨rfl, HF.out⟩
    go_wp2_with fail
    have HPK := Lib.hid (HP.out.below HD.out.below)
    by_cases he : (checkD P).1 = 0
    case neg =>
      have d17 : ((checkD P).1 != 0) = true := by simp [he]
      have HN := Lib.hid (new17_bad _ _ _ _ HPK.out he)
      generalize (checkD P).1 = ec at *
      clear he
      refine HN.out.mono ?_
      rintro e w3 ⟨rfl, hb⟩
      have HF := Lib.hid (HD.out.below.trans (hb.mono HD.out.below.size))
      clear hb
      go_wp2_with fail
      refine (awake_any _).mono ?_
      rintro e wz ⟨rfl, hb⟩
      have HF := Lib.hid (HF.out.trans (hb.mono HF.out.size))
      clear hb
      go_wp2_with fail
      go_ret
      exact ⟨rfl, HF.out⟩
    cases hc : consB P
    case false =>
      refine (new17_inc _ _ _ _ HPK.out he hc).mono ?_
      rintro e w3 ⟨rfl, hb⟩
      have HF := Lib.hid (HD.out.below.trans (hb.mono HD.out.below.size))
      clear hb
      go_wp2_with fail
      refine (awake_any _).mono ?_
      rintro e wz ⟨rfl, hb⟩
      have HF := Lib.hid (HF.out.trans (hb.mono HF.out.size))
      clear hb
      go_wp2_with fail
      go_ret
      exact ⟨rfl, HF.out⟩
    have hv := valid_of_check he
    have hs := small_of_check he
    have hp : prod P P.n ≤ 50000 := (prod_bd P.n (checkD_ok he).2.2.1 (checkD_ok he).2.1 (Nat.le_refl _)).2
    obtain ⟨kx, hk⟩ := perOf_ex hv hc hp x
    obtain ⟨ee, ez, hel, hem⟩ := ev_LM (P := P) hv ws (by omega)
    refine (new17_good _ _ _ _ HPK.out he hc).mono ?_
    rintro e w3 ⟨⟨bh, rfl, hgh⟩, hb⟩
    have HPK := Lib.hid (HPK.out.below hb)
    have HD := Lib.hid (HD.out.step hb)
    have k0 := HD.out.c0
    have k1 := HD.out.c1
    have k2 := HD.out.c2
    have HGH := Lib.hid hgh
    have HE := Lib.hid he
    have HC := Lib.hid hc
    clear hgh hb he hc
    go_wp2_with fail
    refine (new_good _ _ _ _ _ HPK.out HE.out HC.out).mono ?_
    rintro e w4 ⟨⟨bg, br, rfl, hg, -⟩, hb⟩
    have HG := Lib.hid hg
    have HGH := Lib.hid (HGH.out.below hb)
    have HF := Lib.hid (HD.out.below.trans (hb.mono HD.out.below.size))
    have HX := Lib.hid (HX.out.below HF.out)
    have HY := Lib.hid (HY.out.below HF.out)
    have HWS := Lib.hid (HWS.out.below HF.out)
    clear hg hb k0 k1 k2
    have H29 := Lib.hid (fun w bg br s1 s2 (h : GrpAt w bg br P) (h1 : IntsAt w s1 x) (h2 : IntsAt w s2 y) => mul_L w bg br s1 s2 x y h h2 hv h1)
    have H30 := Lib.hid (fun w bh s1 s2 (h : RGrpAt w bh P) (h1 : IntsAt w s1 x) (h2 : IntsAt w s2 y) => mul_M w bh s1 s2 x y h h2 hv h1)
    have H32 := Lib.hid (fun w bg br s1 (h : GrpAt w bg br P) (h1 : IntsAt w s1 x) => inv_L w bg br s1 x h hv h1)
    have H33 := Lib.hid (fun w bh s1 (h : RGrpAt w bh P) (h1 : IntsAt w s1 x) => inv_M w bh s1 x h hv h1)
    have H34 := Lib.hid (fun w bg br s1 (h : GrpAt w bg br P) (h1 : IntsAt w s1 x) => pow_L w bg br s1 x h hv HC.out hp h1 n kx hk)
    have H35 := Lib.hid (fun w bh s1 (h : RGrpAt w bh P) (h1 : IntsAt w s1 x) => pow_M w bh s1 x h hv HC.out hp h1 n kx hk)
    have H36 := Lib.hid hel
    have H37 := Lib.hid hem
    have H38 := Lib.hid (fun w bg br (h : GrpAt w bg br P) => el_L w bg br h hv hs n)
    have H39 := Lib.hid (fun w bh (h : RGrpAt w bh P) => el_M w bh h hv hs n)
    have H40 := Lib.hid (fun w bg br s1 (h : GrpAt w bg br P) (h1 : IntsAt w s1 x) => per_L w bg br s1 x h hv HC.out hp h1 kx hk)
    have H41 := Lib.hid (fun w bh s1 (h : RGrpAt w bh P) (h1 : IntsAt w s1 x) => per_M w bh s1 x h hv HC.out hp h1 kx hk)
    have H42 := Lib.hid (fun w bg br s1 (h : GrpAt w bg br P) (h1 : IntsAt w s1 x) => rk_L w bg br s1 x h hv hs h1)
    have H43 := Lib.hid (fun w bh s1 (h : RGrpAt w bh P) (h1 : IntsAt w s1 x) => rk_M w bh s1 x h hv hs h1)
    clear hel hem hv hs hp hk
    generalize mulErr P x y = f1 at *
    generalize mulZ P x y = z1 at *
    generalize invZ P x = z2 at *
    generalize powZ P x n kx = z3 at *
    generalize elE P n = f4 at *
    generalize elZ P n = z4 at *
    generalize perZ P x kx = f5 at *
    generalize rkZ P x = f6 at *
    generalize takeErr P x = f2 at *
    go_wp2_with fail
    refine (H29.out _ bg br _ _ HG.out HX.out HY.out).mono ?_
    rintro e wn ⟨⟨u, rfl, hz⟩, hb⟩
    obtain ⟨Az, cz, rfl, -⟩ := hz.open_
    have HG := Lib.hid (HG.out.below hb)
    have HGH := Lib.hid (HGH.out.below hb)
    have HX := Lib.hid (HX.out.below hb)
    have HY := Lib.hid (HY.out.below hb)
    have HWS := Lib.hid (HWS.out.below hb)
    have HF := Lib.hid (HF.out.trans (hb.mono HF.out.size))
    clear hb
    have HZa := Lib.hid hz
    clear hz
    go_wp2_with fail
    refine (H30.out _ bh _ _ HGH.out HX.out HY.out).mono ?_
    rintro e wn ⟨⟨u, rfl, hz⟩, hb⟩
    obtain ⟨Az, cz, rfl, -⟩ := hz.open_
    have HG := Lib.hid (HG.out.below hb)
    have HGH := Lib.hid (HGH.out.below hb)
    have HX := Lib.hid (HX.out.below hb)
    have HY := Lib.hid (HY.out.below hb)
    have HWS := Lib.hid (HWS.out.below hb)
    have HZa := Lib.hid (HZa.out.below hb)
    have HF := Lib.hid (HF.out.trans (hb.mono HF.out.size))
    clear hb
    have HZb := Lib.hid hz
    clear hz
    go_wp2_with fail
    refine (equal_yes _ _ _ _ _ HZa.out HZb.out rfl).mono ?_
    rintro e wn ⟨rfl, hb⟩
    have HG := Lib.hid (HG.out.below hb)
    have HGH := Lib.hid (HGH.out.below hb)
    have HX := Lib.hid (HX.out.below hb)
    have HY := Lib.hid (HY.out.below hb)
    have HWS := Lib.hid (HWS.out.below hb)
    have HF := Lib.hid (HF.out.trans (hb.mono HF.out.size))
    clear hb
    clear HZa HZb
    go_wp2_with fail
    refine (H32.out _ bg br _ HG.out HX.out).mono ?_
    rintro e wn ⟨⟨u, rfl, hz⟩, hb⟩
    obtain ⟨Az, cz, rfl, -⟩ := hz.open_
    have HG := Lib.hid (HG.out.below hb)
    have HGH := Lib.hid (HGH.out.below hb)
    have HX := Lib.hid (HX.out.below hb)
    have HY := Lib.hid (HY.out.below hb)
    have HWS := Lib.hid (HWS.out.below hb)
    have HF := Lib.hid (HF.out.trans (hb.mono HF.out.size))
    clear hb
    have HZa := Lib.hid hz
    clear hz
    go_wp2_with fail
    refine (H33.out _ bh _ HGH.out HX.out).mono ?_
    rintro e wn ⟨⟨u, rfl, hz⟩, hb⟩
    obtain ⟨Az, cz, rfl, -⟩ := hz.open_
    have HG := Lib.hid (HG.out.below hb)
    have HGH := Lib.hid (HGH.out.below hb)
    have HX := Lib.hid (HX.out.below hb)
    have HY := Lib.hid (HY.out.below hb)
    have HWS := Lib.hid (HWS.out.below hb)
    have HZa := Lib.hid (HZa.out.below hb)
    have HF := Lib.hid (HF.out.trans (hb.mono HF.out.size))
    clear hb
    have HZb := Lib.hid hz
    clear hz
    go_wp2_with fail
    refine (equal_yes _ _ _ _ _ HZa.out HZb.out rfl).mono ?_
    rintro e wn ⟨rfl, hb⟩
    have HG := Lib.hid (HG.out.below hb)
    have HGH := Lib.hid (HGH.out.below hb)
    have HX := Lib.hid (HX.out.below hb)
    have HY := Lib.hid (HY.out.below hb)
    have HWS := Lib.hid (HWS.out.below hb)
    have HF := Lib.hid (HF.out.trans (hb.mono HF.out.size))
    clear hb
    clear HZa HZb
    go_wp2_with fail
    refine (H34.out _ bg br _ HG.out HX.out).mono ?_
    rintro e wn ⟨⟨u, rfl, hz⟩, hb⟩
    obtain ⟨Az, cz, rfl, -⟩ := hz.open_
    have HG := Lib.hid (HG.out.below hb)
    have HGH := Lib.hid (HGH.out.below hb)
    have HX := Lib.hid (HX.out.below hb)
    have HY := Lib.hid (HY.out.below hb)
    have HWS := Lib.hid (HWS.out.below hb)
    have HF := Lib.hid (HF.out.trans (hb.mono HF.out.size))
    clear hb
    have HZa := Lib.hid hz
    clear hz
    go_wp2_with fail
    refine (H35.out _ bh _ HGH.out HX.out).mono ?_
    rintro e wn ⟨⟨u, rfl, hz⟩, hb⟩
    obtain ⟨Az, cz, rfl, -⟩ := hz.open_
    have HG := Lib.hid (HG.out.below hb)
    have HGH := Lib.hid (HGH.out.below hb)
    have HX := Lib.hid (HX.out.below hb)
    have HY := Lib.hid (HY.out.below hb)
    have HWS := Lib.hid (HWS.out.below hb)
    have HZa := Lib.hid (HZa.out.below hb)
    have HF := Lib.hid (HF.out.trans (hb.mono HF.out.size))
    clear hb
    have HZb := Lib.hid hz
    clear hz
    go_wp2_with fail
    refine (equal_yes _ _ _ _ _ HZa.out HZb.out rfl).mono ?_
    rintro e wn ⟨rfl, hb⟩
    have HG := Lib.hid (HG.out.below hb)
    have HGH := Lib.hid (HGH.out.below hb)
    have HX := Lib.hid (HX.out.below hb)
    have HY := Lib.hid (HY.out.below hb)
    have HWS := Lib.hid (HWS.out.below hb)
    have HF := Lib.hid (HF.out.trans (hb.mono HF.out.size))
    clear hb
    clear HZa HZb
    go_wp2_with fail
    refine (H36.out _ bg br _ HG.out HWS.out).mono ?_
    rintro e wn ⟨⟨u, rfl, hz⟩, hb⟩
    obtain ⟨Az, cz, rfl, -⟩ := hz.open_
    have HG := Lib.hid (HG.out.below hb)
    have HGH := Lib.hid (HGH.out.below hb)
    have HX := Lib.hid (HX.out.below hb)
    have HY := Lib.hid (HY.out.below hb)
    have HWS := Lib.hid (HWS.out.below hb)
    have HF := Lib.hid (HF.out.trans (hb.mono HF.out.size))
    clear hb
    have HZa := Lib.hid hz
    clear hz
    go_wp2_with fail
    refine (H37.out _ bh _ HGH.out HWS.out).mono ?_
    rintro e wn ⟨⟨u, rfl, hz⟩, hb⟩
    obtain ⟨Az, cz, rfl, -⟩ := hz.open_
    have HG := Lib.hid (HG.out.below hb)
    have HGH := Lib.hid (HGH.out.below hb)
    have HX := Lib.hid (HX.out.below hb)
    have HY := Lib.hid (HY.out.below hb)
    have HWS := Lib.hid (HWS.out.below hb)
    have HZa := Lib.hid (HZa.out.below hb)
    have HF := Lib.hid (HF.out.trans (hb.mono HF.out.size))
    clear hb
    have HZb := Lib.hid hz
    clear hz
    go_wp2_with fail
    refine (equal_yes _ _ _ _ _ HZa.out HZb.out rfl).mono ?_
    rintro e wn ⟨rfl, hb⟩
    have HG := Lib.hid (HG.out.below hb)
    have HGH := Lib.hid (HGH.out.below hb)
    have HX := Lib.hid (HX.out.below hb)
    have HY := Lib.hid (HY.out.below hb)
    have HWS := Lib.hid (HWS.out.below hb)
    have HF := Lib.hid (HF.out.trans (hb.mono HF.out.size))
    clear hb
    clear HZa HZb
    go_wp2_with fail
    refine (H38.out _ bg br HG.out).mono ?_
    rintro e wn ⟨⟨u, rfl, hz⟩, hb⟩
    obtain ⟨Az, cz, rfl, -⟩ := hz.open_
    have HG := Lib.hid (HG.out.below hb)
    have HGH := Lib.hid (HGH.out.below hb)
    have HX := Lib.hid (HX.out.below hb)
    have HY := Lib.hid (HY.out.below hb)
    have HWS := Lib.hid (HWS.out.below hb)
    have HF := Lib.hid (HF.out.trans (hb.mono HF.out.size))
    clear hb
    have HZa := Lib.hid hz
    clear hz
    go_wp2_with fail
    refine (H39.out _ bh HGH.out).mono ?_
    rintro e wn ⟨⟨u, rfl, hz⟩, hb⟩
    obtain ⟨Az, cz, rfl, -⟩ := hz.open_
    have HG := Lib.hid (HG.out.below hb)
    have HGH := Lib.hid (HGH.out.below hb)
    have HX := Lib.hid (HX.out.below hb)
    have HY := Lib.hid (HY.out.below hb)
    have HWS := Lib.hid (HWS.out.below hb)
    have HZa := Lib.hid (HZa.out.below hb)
    have HF := Lib.hid (HF.out.trans (hb.mono HF.out.size))
    clear hb
    have HZb := Lib.hid hz
    clear hz
    go_wp2_with fail
    refine (equal_yes _ _ _ _ _ HZa.out HZb.out rfl).mono ?_
    rintro e wn ⟨rfl, hb⟩
    have HG := Lib.hid (HG.out.below hb)
    have HGH := Lib.hid (HGH.out.below hb)
    have HX := Lib.hid (HX.out.below hb)
    have HY := Lib.hid (HY.out.below hb)
    have HWS := Lib.hid (HWS.out.below hb)
    have HF := Lib.hid (HF.out.trans (hb.mono HF.out.size))
    clear hb
    clear HZa HZb
    go_wp2_with fail
    refine (H40.out _ bg br _ HG.out HX.out).mono ?_
    rintro e wn ⟨rfl, hb⟩
    have HG := Lib.hid (HG.out.below hb)
    have HGH := Lib.hid (HGH.out.below hb)
    have HX := Lib.hid (HX.out.below hb)
    have HY := Lib.hid (HY.out.below hb)
    have HWS := Lib.hid (HWS.out.below hb)
    have HF := Lib.hid (HF.out.trans (hb.mono HF.out.size))
    clear hb
    go_wp2_with fail
    refine (H41.out _ bh _ HGH.out HX.out).mono ?_
    rintro e wn ⟨rfl, hb⟩
    have HG := Lib.hid (HG.out.below hb)
    have HGH := Lib.hid (HGH.out.below hb)
    have HX := Lib.hid (HX.out.below hb)
    have HY := Lib.hid (HY.out.below hb)
    have HWS := Lib.hid (HWS.out.below hb)
    have HF := Lib.hid (HF.out.trans (hb.mono HF.out.size))
    clear hb
    go_wp2_with fail
    refine (H42.out _ bg br _ HG.out HX.out).mono ?_
    rintro e wn ⟨rfl, hb⟩
    have HG := Lib.hid (HG.out.below hb)
    have HGH := Lib.hid (HGH.out.below hb)
    have HX := Lib.hid (HX.out.below hb)
    have HY := Lib.hid (HY.out.below hb)
    have HWS := Lib.hid (HWS.out.below hb)
    have HF := Lib.hid (HF.out.trans (hb.mono HF.out.size))
    clear hb
    go_wp2_with fail
    refine (H43.out _ bh _ HGH.out HX.out).mono ?_
    rintro e wn ⟨rfl, hb⟩
    have HG := Lib.hid (HG.out.below hb)
    have HGH := Lib.hid (HGH.out.below hb)
    have HX := Lib.hid (HX.out.below hb)
    have HY := Lib.hid (HY.out.below hb)
    have HWS := Lib.hid (HWS.out.below hb)
    have HF := Lib.hid (HF.out.trans (hb.mono HF.out.size))
    clear hb
    go_wp2_with fail
    refine (awake_any _).mono ?_
    rintro e wz ⟨rfl, hb⟩
    have HF := Lib.hid (HF.out.trans (hb.mono HF.out.size))
    clear hb
    go_wp2_with fail
    go_ret
    exact ⟨rfl, HF.out⟩
end Go.Proofs
