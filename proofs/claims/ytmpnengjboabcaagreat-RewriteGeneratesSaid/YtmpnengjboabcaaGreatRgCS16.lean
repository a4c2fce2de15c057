/- The reference's Coincide; (*coset.state).coincide. -/
import Derived.Test.YtmpnengjboabcaaGreatRgCS15
namespace Go.Proofs
open Go.RowKit Go.Shelf Go.Proofs.Ct Go.Maps
theorem inv_len1 {g : Nat} {s : St} (h : Inv g s) (e c : Nat) (z : Int) : ∀ r, r < ({ s with t := set2 s.t e c z } : St).t.length → (({ s with t := set2 s.t e c z } : St).t.row r).length = 2 * g := fun r hr => by
  simp only [length_set2, rowlen_set2] at hr ⊢
  exact h.len r hr
set_option maxRecDepth 100000 in
set_option maxHeartbeats 4000000 in
theorem coincide154_any (g m base b lim x y : Nat) (hm : m = 2 * g) (w : World) (s : St) (hr : Ct.Rest g s) (hg : g ≤ 16) (hS : StR base b lim w s) (hbw : base ≤ w.heap.size) (hx : x < s.t.length) (hy : y < s.t.length) (hn : s.t.length ≤ 1000000) :
    Calls Tryz.prog 105 #[.pointer (some ⟨b, 0, none⟩), .int .i64 (x : Int), .int .i64 (y : Int)] w fun e w' => e = .returned (.tuple #[]) ∧ StR base b lim w' (coinS m s x y) ∧ Kf base w w' := by
  obtain ⟨A, c, q1, q2, -, q3, q4⟩ := hS.que
  have h0 : Inv g { s with q := [] } := ⟨hr.inv.len, hr.inv.bd, hr.inv.rl, hr.inv.rle, hr.inv.rid, hr.inv.back⟩
  have hq0 : QI g 0 0 { s with q := [] } := ⟨fun x hx hd c hc h0 => absurd h0 (by have := hr.dead x hx hd c hc; simp only at h0; omega), fun j hj => absurd hj (by simp), Nat.zero_le _, hr.lv⟩
  have hm1 := h0.merge (a := x) (b := y) hx hy
  have hqm := hq0.merge h0 (.inr ⟨rfl, rfl⟩) (a := x) (b := y) hx hy
  have hlv : -1000000 ≤ s.live ∧ s.live ≤ 1000000 := by
    have h1 := hr.lv
    have h2 := dc_le s
    omega
  have HME := Lib.hid fun W (h : StR base b lim W { s with q := [] }) (hw : base ≤ W.heap.size) => merge159_any g base b lim x y W { s with q := [] } h0 h hw hx hy hn (by simp) hlv.1 hlv.2
  have hml : (mergeS { s with q := [] } x y).t.length = s.t.length := by rw [t_merge]
  have HS0 := Lib.hid q3
  have HB0 : Hid (Kf base w (w.setCell ⟨b, 2, none⟩ (.slice none 0 0))) := Lib.hid q4
  have HEND : Hid (∀ k, (coinTo m k (mergeS { s with q := [] } x y)).q.length ≤ k → k ≤ s.t.length → coinS m s x y = coinTo m k (mergeS { s with q := [] } x y)) := Lib.hid fun k h1 h2 => coinTo_stop _ _ h1 _ h2
  have HALL : Hid (∀ k, Inv g (coinTo m k (mergeS { s with q := [] } x y)) ∧ (coinTo m k (mergeS { s with q := [] } x y)).t.length = s.t.length ∧ QI g (min k (coinTo m k (mergeS { s with q := [] } x y)).q.length) 0 (coinTo m k (mergeS { s with q := [] } x y))) := Lib.hid fun k => by
    obtain ⟨a1, a2, a3, -⟩ := coinTo_inv hm1 hqm k
    rw [← hm] at a1 a2 a3
    exact ⟨a1, a2.n.trans hml, a3⟩
  generalize mergeS { s with q := [] } x y = s1 at *
  generalize hse : coinS m s x y = se at *
  generalize hs0 : ({ s with q := [] } : St) = s0 at *
  generalize s.t.length = n at *
  have HBW := Lib.hid hbw
  have HM := Lib.hid hm
  have hm0 : (m : Int) ≤ 32 := by omega
  have hn0 : (n : Int) ≤ 1000000 := by omega
  clear h0 hq0 hm1 hqm hr hS q3 q4 hml hbw hse hs0 hlv hm
  go_enter Tryz.func105, Tryz.ntmps105
  go_wp2_with (first
    | (go_at_call 110; (with_reducible refine (HME.out _ HS0.out (Nat.le_trans HBW.out HB0.out.size)).mono ?_); rintro e w1 ⟨rfl, hs1, hb1⟩
       have HS1 := Lib.hid hs1
       have HB1 := Lib.hid (HB0.out.trans hb1)
       clear hs1 hb1))
  clear q1 q2 HS0 HB0 HME
  go_loopw [6] (fun i wr => ∃ k : Nat, i = .int .i64 k ∧ k ≤ n ∧ Hid (StR base b lim wr (coinTo m k s1)) ∧ Hid (Kf base w wr)) (fun i _ => n - (intOf i).toNat)
  case atStart => exact ⟨0, rfl, Nat.zero_le _, HS1, HB1⟩
  case round =>
    obtain ⟨k, rfl, hkn, HS, HB⟩ := hrel
    clear HS1 HB1
    have hk0 : (0 : Int) ≤ (k : Int) := Int.natCast_nonneg _
    obtain ⟨a1, a2, a3⟩ := HALL.out k
    obtain ⟨A2, c2, q1, -, q3, -⟩ := HS.out.que
    have hql : (coinTo m k s1).q.length ≤ n := by have := a3.cnt; have := dc_le (coinTo m k s1); omega
    by_cases hlt : k < (coinTo m k s1).q.length
    · rw [show min k (coinTo m k s1).q.length = k by omega] at a3
      obtain ⟨gq, rfl, hcc⟩ := q3 (by omega)
      have hck := hcc k hlt
      have hPQ := fun c (hc : c ≤ 2 * g) => proc_q a1 a3 hlt c hc
      have HN1 := Lib.hid (coinTo_succ m k s1 hlt)
      have hel := (a3.qd k hlt).1
      rw [a2] at hel
      generalize coinTo m k s1 = sk at *
      generalize sk.q.getD k 0 = e at *
      have HPQ : Hid (∀ c, c ≤ m → Inv g (procTo e c sk) ∧ QI g k c (procTo e c sk) ∧ (procTo e c sk).t.length = n) := Lib.hid fun c hc => by
        obtain ⟨p1, p2, p3, -⟩ := hPQ c (by rw [← HM.out]; exact hc)
        exact ⟨p1, p3, p2.n.trans a2⟩
      have he0 : (0 : Int) ≤ (e : Int) := Int.natCast_nonneg _
      have he1 : (e : Int) < (n : Int) := by omega
      have hkl : (k : Int) < (sk.q.length : Int) := by omega
      have hqn : (sk.q.length : Int) ≤ (n : Int) := by omega
      clear a1 a2 a3 q3 hcc hPQ
      go_wp2_with fail
      go_loopw [8] (fun j wi => ∃ c : Nat, j = .int .i64 c ∧ c ≤ m ∧ Hid (StR base b lim wi (procTo e c sk)) ∧ Hid (Kf base w wi)) (fun j _ => m - (intOf j).toNat)
      case atStart => exact ⟨0, rfl, Nat.zero_le _, HS, HB⟩
      case round =>
        clear q1 hck HS HB
        obtain ⟨c, rfl, hcm, HS, HB⟩ := hrel
        have hc0 : (0 : Int) ≤ (c : Int) := Int.natCast_nonneg _
        obtain ⟨hI, hQ, hL⟩ := HPQ.out c hcm
        have HSTEP : Hid (procTo e (c + 1) sk = stepS e c (procTo e c sk)) := Lib.hid rfl
        have hlv : -1000000 ≤ (procTo e c sk).live ∧ (procTo e c sk).live ≤ 1000000 := by
          have h1 := hQ.lv
          have h2 := dc_le (procTo e c sk)
          omega
        have hqs : (procTo e c sk).q.length ≤ 1000000 := by
          have h1 := hQ.cnt
          have h2 := dc_le (procTo e c sk)
          omega
        generalize hsn : procTo e (c + 1) sk = sn at *
        have HSN := Lib.hid hsn
        clear hsn
        by_cases hc : c < m
        · have hcI : (c : Int) < (m : Int) := by omega
          generalize procTo e c sk = sc at *
          have hel' : e < sc.t.length := by omega
          have hcg : c < 2 * g := by rw [← HM.out]; exact hc
          have hbd := hI.bd e hel' c hcg
          obtain ⟨gr, cr, bl, cs, f1, hv1, hv2⟩ := HS.out.view hI.len (by omega)
          have f2 := hv1 e hel'
          obtain ⟨f3, f4, f5⟩ := hv2 e c hel' hcg
          have HF5 := Lib.hid f5
          rw [hL] at f1
          rw [← HM.out] at f2
          clear hv1 hv2 f5
          by_cases hd : sc.t.at e c < 0
          · have HE : Hid (stepS e c sc = sc) := Lib.hid (by unfold stepS; rw [if_pos hd])
            have hbd1 := hbd.1
            clear hI hQ hbd hlv hqs f4 HF5
            generalize sc.t.at e c = d at *
            generalize bl e = be at *
            generalize cs e = ke at *
            go_wp2_with fail
            go_roundw
            case rel => exact ⟨c + 1, by go_num, by omega, by rw [HSN.out, HSTEP.out, HE.out]; exact HS, HB⟩
            case measure => simp [intOf]; omega
          · obtain ⟨d, hde⟩ : ∃ d : Nat, sc.t.at e c = (d : Int) := ⟨(sc.t.at e c).toNat, by omega⟩
            have hd' : 0 ≤ sc.t.at e c := by omega
            have hcut := hI.cut hel' hcg hd'
            have hdl : d < n := by omega
            have hfg : flp c < 2 * g := flp_lt2 hcg
            have hfm : flp c < m := by rw [HM.out]; exact hfg
            have hfe := flp_eq c (by omega)
            have hf0 : (0 : Int) ≤ ((flp c : Nat) : Int) := Int.natCast_nonneg _
            have hf1 : ((flp c : Nat) : Int) < (m : Int) := by omega
            have hd0 : (0 : Int) ≤ (d : Int) := Int.natCast_nonneg _
            have hd1 : (d : Int) < (n : Int) := by omega
            have HSE : Hid (stepS e c sc = if 0 ≤ (cutT sc.t e c).at (sc.rp e) c then mergeS { sc with t := cutT sc.t e c } ((cutT sc.t e c).at (sc.rp e) c).toNat (sc.rp d) else
                if 0 ≤ (cutT sc.t e c).at (sc.rp d) (flp c) then mergeS { sc with t := cutT sc.t e c } ((cutT sc.t e c).at (sc.rp d) (flp c)).toNat (sc.rp e) else { sc with t := joinT (cutT sc.t e c) (sc.rp e) c (sc.rp d) }) := Lib.hid (by
              unfold stepS
              rw [if_neg hd, hde, Int.toNat_natCast])
            have HCT : Hid (cutT sc.t e c = set2 (set2 sc.t e c (-1)) d (flp c) (-1)) := Lib.hid (by unfold cutT; rw [hde, Int.toNat_natCast])
            have hst1 := (HF5.out (-1)).1
            have hbe1 := (HF5.out (-1)).2
            rw [hde] at f3
            generalize bl e = be at *
            generalize cs e = ke at *
            have HB1 := Lib.hid (HB.out.trans hbe1)
            have hlen1 : ({ sc with t := set2 sc.t e c (-1) } : St).t.length = sc.t.length := length_set2 _ _ _ _
            obtain ⟨gr1, cr1, bl1, cs1, p1, hv1, hv2⟩ := hst1.view (inv_len1 hI e c (-1)) (by rw [hlen1]; omega)
            have p2 := hv1 d (by rw [hlen1]; omega)
            obtain ⟨p3, p4, p5⟩ := hv2 d (flp c) (by rw [hlen1]; omega) hfg
            rw [hlen1, hL] at p1
            rw [← HM.out] at p2
            have hst2 := (p5 (-1)).1
            have HB2 := Lib.hid (HB1.out.trans (p5 (-1)).2)
            have hse2 : ({ ({ sc with t := set2 sc.t e c (-1) } : St) with t := set2 (set2 sc.t e c (-1)) d (flp c) (-1) } : St) = { sc with t := cutT sc.t e c } := by rw [HCT.out]
            rw [hse2] at hst2
            have HP := Lib.hid (⟨p1, p2, p3, p4⟩ : _ ∧ _ ∧ _ ∧ _)
            have HST := Lib.hid hst2
            clear hv1 hv2 p1 p2 p3 p4 p5 hst1 hst2 hbe1 hse2 HF5 hd
            go_upto_region 12 with fail
            generalize wr.setCell ⟨be, c, none⟩ (.int .i64 (-1)) = w1 at *
            clear f1 f2 f3 f4
            obtain ⟨p1, p2, p3, p4⟩ := HP.out
            generalize bl1 d = bd at *
            generalize cs1 d = kd at *
            go_upto_region 13 with fail
            generalize w1.setCell ⟨bd, flp c, none⟩ (.int .i64 (-1)) = w2 at *
            clear p1 p2 p3 p4 HP
            generalize hs1e : ({ sc with t := cutT sc.t e c } : St) = s2 at *
            have hL2 : s2.t.length = n := by rw [← hs1e]; exact (length_cut _ _ _).trans hL
            have ht2 : s2.t = cutT sc.t e c := by rw [← hs1e]
            have hrp : ∀ z, s2.rp z = sc.rp z := fun z => by rw [← hs1e]; rfl
            have hlv2 : -1000000 ≤ s2.live ∧ s2.live ≤ 1000000 := by rw [← hs1e]; exact hlv
            have hqs2 : s2.q.length ≤ 1000000 := by rw [← hs1e]; exact hqs
            have hjoin : ({ sc with t := joinT s2.t (s2.rp e) c (s2.rp d) } : St) = joinS s2 (s2.rp e) c (s2.rp d) := by rw [← hs1e]; rfl
            rw [← ht2, ← hrp e, ← hrp d, hjoin] at HSE
            have hu : s2.rp e < n := by have := hcut.rlt (x := e) (by omega); omega
            have hv : s2.rp d < n := by have := hcut.rlt (x := d) (by omega); omega
            have hb1 := hcut.bd (s2.rp e) (by omega) c hcg
            have hb2 := hcut.bd (s2.rp d) (by omega) (flp c) hfg
            have HFE := Lib.hid (rep160_any g base b lim e w2 s2 hcut HST.out (by omega) (by omega))
            have HFD := Lib.hid (rep160_any g base b lim d w2 s2 hcut HST.out (by omega) (by omega))
            have HME2 : Hid (∀ (p q : Nat), p < n → q < n → Calls Tryz.prog 110 #[.pointer (some ⟨b, 0, none⟩), .int .i64 (p : Int), .int .i64 (q : Int)] w2 fun e w' => e = .returned (.tuple #[]) ∧ StR base b lim w' (mergeS s2 p q) ∧ Kf base w2 w') := Lib.hid fun p q h1 h2 =>
              merge159_any g base b lim p q w2 s2 hcut HST.out (Nat.le_trans HBW.out HB2.out.size) (by omega) (by omega) (by omega) hqs2 hlv2.1 hlv2.2
            obtain ⟨gr2, cr2, bl2, cs2, p1, hv1, hv2⟩ := HST.out.view hcut.len (by omega)
            have pu := hv1 (s2.rp e) (by omega)
            have pv := hv1 (s2.rp d) (by omega)
            obtain ⟨pu1, pu2, pu3⟩ := hv2 (s2.rp e) c (by omega) hcg
            obtain ⟨pv1, pv2, -⟩ := hv2 (s2.rp d) (flp c) (by omega) hfg
            rw [hL2] at p1
            rw [← HM.out] at pu pv
            have HLEN : Hid (∀ z, ∀ r, r < ({ s2 with t := set2 s2.t (s2.rp e) c z } : St).t.length → (({ s2 with t := set2 s2.t (s2.rp e) c z } : St).t.row r).length = 2 * g) := Lib.hid fun z => inv_len1 hcut (s2.rp e) c z
            have hj2 : ∀ u v : Nat, ({ ({ s2 with t := set2 s2.t u c (v : Int) } : St) with t := set2 (set2 s2.t u c (v : Int)) v (flp c) (u : Int) } : St) = joinS s2 u c v := fun u v => rfl
            have HJ2 := Lib.hid (hj2 (s2.rp e) (s2.rp d))
            have HPU3 := Lib.hid (pu3 ((s2.rp d : Nat) : Int))
            have HL2 := Lib.hid hL2
            clear hjoin hs1e hlv2 hqs2 hlv hqs hrp ht2 hcut hI hQ pu3 hv1 hv2 hj2 hL2
            generalize s2.t.at (s2.rp e) c = y1 at *
            generalize s2.t.at (s2.rp d) (flp c) = y2 at *
            generalize hsj : joinS s2 (s2.rp e) c (s2.rp d) = sj at *
            clear hsj
            generalize hue : s2.rp e = u at *
            generalize hve : s2.rp d = v at *
            clear hue hve
            have hu0 : (0 : Int) ≤ (u : Int) := Int.natCast_nonneg _
            have hv0 : (0 : Int) ≤ (v : Int) := Int.natCast_nonneg _
            have hu1 : (u : Int) < (n : Int) := by omega
            have hv1 : (v : Int) < (n : Int) := by omega
            by_cases h1 : 0 ≤ y1
            · obtain ⟨z1, rfl⟩ : ∃ z : Nat, y1 = (z : Int) := ⟨y1.toNat, by omega⟩
              have HRES : Hid (stepS e c sc = mergeS s2 v z1) := Lib.hid (by rw [HSE.out, if_pos h1, Int.toNat_natCast, merge_comm])
              have HLAST := Lib.hid (HME2.out v z1 (by omega) (by rw [HL2.out] at hb1; omega))
              clear HME2 HPU3 HJ2
              generalize mergeS s2 v z1 = s9 at *
              generalize bl2 u = bu at *
              generalize cs2 u = ku at *
              generalize bl2 v = bv at *
              generalize cs2 v = kv at *
              go_wp2_with (first
                | (go_at_call 111; (with_reducible refine HFE.out.mono ?_); rintro E w10 ⟨rfl, rfl⟩; clear HFE)
                | (go_at_call 111; (with_reducible refine HFD.out.mono ?_); rintro E w11 ⟨rfl, rfl⟩; clear HFD)
                | (go_at_call 110; (with_reducible refine HLAST.out.mono ?_); rintro E w12 ⟨rfl, hs3, hb3⟩
                   have HS12 := Lib.hid hs3
                   have HB12 := Lib.hid (HB2.out.trans hb3)
                   clear hs3 hb3))
              go_roundw
              case rel => exact ⟨c + 1, by go_num, by omega, by rw [HSN.out, HSTEP.out, HRES.out]; exact HS12, HB12⟩
              case measure => simp [intOf]; omega
            · have h1' : y1 < 0 := by omega
              by_cases h2 : 0 ≤ y2
              · obtain ⟨z2, rfl⟩ : ∃ z : Nat, y2 = (z : Int) := ⟨y2.toNat, by omega⟩
                have HRES : Hid (stepS e c sc = mergeS s2 u z2) := Lib.hid (by rw [HSE.out, if_neg h1, if_pos h2, Int.toNat_natCast, merge_comm])
                have HLAST := Lib.hid (HME2.out u z2 (by omega) (by rw [HL2.out] at hb2; omega))
                clear HME2 HPU3 HJ2 h1
                generalize mergeS s2 u z2 = s9 at *
                generalize bl2 u = bu at *
                generalize cs2 u = ku at *
                generalize bl2 v = bv at *
                generalize cs2 v = kv at *
                go_wp2_with (first
                  | (go_at_call 111; (with_reducible refine HFE.out.mono ?_); rintro E w10 ⟨rfl, rfl⟩; clear HFE)
                  | (go_at_call 111; (with_reducible refine HFD.out.mono ?_); rintro E w11 ⟨rfl, rfl⟩; clear HFD)
                  | (go_at_call 110; (with_reducible refine HLAST.out.mono ?_); rintro E w12 ⟨rfl, hs3, hb3⟩
                     have HS12 := Lib.hid hs3
                     have HB12 := Lib.hid (HB2.out.trans hb3)
                     clear hs3 hb3))
                go_roundw
                case rel => exact ⟨c + 1, by go_num, by omega, by rw [HSN.out, HSTEP.out, HRES.out]; exact HS12, HB12⟩
                case measure => simp [intOf]; omega
              · have h2' : y2 < 0 := by omega
                have HRES : Hid (stepS e c sc = sj) := Lib.hid (by rw [HSE.out, if_neg h1, if_neg h2])
                clear HME2 h1 h2
                obtain ⟨hst3, hbe3⟩ := HPU3.out
                have hlen3 : ({ s2 with t := set2 s2.t u c (v : Int) } : St).t.length = n := (length_set2 _ _ _ _).trans HL2.out
                obtain ⟨gr3, cr3, bl3, cs3, r1, hv3, hv4⟩ := hst3.view (HLEN.out _) (by rw [hlen3]; omega)
                have r2 := hv3 v (by rw [hlen3]; omega)
                obtain ⟨r3, r4, r5⟩ := hv4 v (flp c) (by rw [hlen3]; omega) hfg
                rw [hlen3] at r1
                rw [← HM.out] at r2
                have hst4 := (r5 (u : Int)).1
                have HB4 := Lib.hid ((HB2.out.trans hbe3).trans (r5 (u : Int)).2)
                rw [HJ2.out] at hst4
                have HST4 := Lib.hid hst4
                have HR := Lib.hid (⟨r1, r2, r3, r4⟩ : _ ∧ _ ∧ _ ∧ _)
                clear hst3 hbe3 hv3 hv4 r1 r2 r3 r4 r5 hst4 HPU3 HJ2 HLEN
                generalize bl2 u = bu at *
                generalize cs2 u = ku at *
                generalize bl2 v = bv at *
                generalize cs2 v = kv at *
                generalize bl3 v = bw at *
                generalize cs3 v = kw at *
                go_upto_region 15 with (first
                  | (go_at_call 111; (with_reducible refine HFE.out.mono ?_); rintro E w10 ⟨rfl, rfl⟩; clear HFE)
                  | (go_at_call 111; (with_reducible refine HFD.out.mono ?_); rintro E w11 ⟨rfl, rfl⟩; clear HFD))
                generalize w2.setCell ⟨bu, c, none⟩ (.int .i64 (v : Int)) = w3 at *
                clear p1 pu pv pu1 pu2 pv1 pv2
                obtain ⟨r1, r2, r3, r4⟩ := HR.out
                go_wp2_with fail
                go_roundw
                case rel => exact ⟨c + 1, by go_num, by omega, by rw [HSN.out, HSTEP.out, HRES.out]; exact HST4, HB4⟩
                case measure => simp [intOf]; omega
        · obtain rfl : c = m := by omega
          obtain ⟨gr, cr, bl, cs, f1, hv1, hv2⟩ := HS.out.view hI.len (by omega)
          have f2 := hv1 e (by omega)
          have HNX := Lib.hid HN1.out
          rw [hL] at f1
          rw [← HM.out] at f2
          generalize bl e = be at *
          generalize cs e = ke at *
          clear hv1 hv2 hI hQ hlv hqs
          go_wp2_with fail
          go_roundw
          case rel => exact ⟨k + 1, by go_num, by omega, by rw [HNX.out]; exact HS, HB⟩
          case measure => simp [intOf]; omega
    · have HE : Hid (se = coinTo m k s1) := Lib.hid (HEND.out k (by omega) hkn)
      have hkl : ¬ (k : Int) < ((coinTo m k s1).q.length : Int) := by omega
      generalize coinTo m k s1 = sk at *
      clear a1 a2 a3 q3 hlt
      go_wp2_with fail
      go_end0
      exact ⟨rfl, by rw [HE.out]; exact HS.out, HB.out⟩
end Go.Proofs
namespace Go.Proofs
open Go.RowKit Go.Shelf Go.Proofs.Ct Go.Maps
theorem StP.drew {base b wd lim : Nat} {w : World} {s : St} (hS : StP base b wd lim w s) : StP base b wd lim w.drew s := by
  obtain ⟨hb, P, vr, vp, vq, bl, cs, hB, hC⟩ := hS
  have hd := (Below.refl w.heap.size w).drew
  exact ⟨hb, P, vr, vp, vq, bl, cs, hB.below hd, hC.below hd⟩
theorem r_slice0 {o : Oper} {a : Act} {w : World} (x : Operand) (A : Option Addr) (n c : Nat) (ho : o.op = .slice 22 x none (some (.const (.int .i64 0))) none) (hx : a.eval x = .slice A n c) (hA : ∀ p, A = some p → p.off = 0 ∧ p.spot = none) : (execOp a.eval o).run Tryz.prog w = .ok (.value (.slice A 0 c)) w := by
  have h1 : (A.map fun p => p.add 0) = A := by
    cases A with
    | none => rfl
    | some p =>
      obtain ⟨b, k, sp⟩ := p
      obtain ⟨h1, h2⟩ := hA _ rfl
      simp only at h1 h2
      subst h1 h2
      rfl
  have h2 : Act.eval a (.const (.int .i64 0)) = .int .i64 0 := rfl
  have hc : (0 : Int) ≤ (c : Int) := Int.natCast_nonneg _
  have hu : Tryz.prog.underlying 22 = some (.slice (Tryz.prog.elem 22)) := by kernel_rfl
  have hs : (sizeOf (Tryz.prog.elem 22)).run Tryz.prog w = .ok 1 w := by kernel_rfl
  unfold execOp
  simp only [ho, hx, Option.map_none, Option.map_some, h2, Sem.run_bind, run_sliceAt_slice w 22 _ _ _ _ hu, run_slice_h w 22 A n c hu .i64 0 (by omega) hc]
  simp [hs, sliced, h1]
theorem r_xor {o : Oper} {a : Act} {w : World} (x : Operand) (i z : Int) (ho : o.op = .binOp .xor 3 x (.const (.int .i64 1)) 3) (hx : a.eval x = .int .i64 i) (hb : bits .xor .i64 i 1 = z) : (execOp a.eval o).run Tryz.prog w = .ok (.value (.int .i64 z)) w := by
  have h2 : Act.eval a (.const (.int .i64 1)) = .int .i64 1 := rfl
  unfold execOp
  simp only [ho, hx, h2]
  simp [go_sem, hb]
theorem sel2 {W A B C : World} {p q : Bool} (h : W = bif p then C else bif q then B else A) (hp : p = false) : W = A ∨ W = B := by
  subst hp
  cases q
  · exact .inl h
  · exact .inr h
theorem sel3 {W A B C : World} {p q : Bool} (h : W = bif p then C else bif q then B else A) (hp : p = false) (hq : q = false) : W = A := by
  subst hp hq
  exact h
theorem StP.cut {g base b wd lim : Nat} {w : World} {s : St} (hI : Inv g s) (hS : StP base b wd lim w s) {e c : Nat} (he : e < s.t.length) (hc : c < 2 * g) (_hd : 0 ≤ s.t.at e c) :
    ∃ gr cr be ke bd kd x2, w.cell? ⟨b, 2, none⟩ = some (.slice (some ⟨gr, 0, none⟩) s.t.length cr) ∧ w.cell? ⟨gr, e, none⟩ = some (.slice (some ⟨be, 0, none⟩) (2 * g) ke) ∧ w.cell? ⟨gr, (s.t.at e c).toNat, none⟩ = some (.slice (some ⟨bd, 0, none⟩) (2 * g) kd) ∧
      w.cell? ⟨be, c, none⟩ = some (.int .i64 (s.t.at e c)) ∧ w.frozen? ⟨be, c, none⟩ = false ∧
      (w.setCell ⟨be, c, none⟩ (.int .i64 (-1))).cell? ⟨b, 2, none⟩ = some (.slice (some ⟨gr, 0, none⟩) s.t.length cr) ∧ (w.setCell ⟨be, c, none⟩ (.int .i64 (-1))).cell? ⟨gr, (s.t.at e c).toNat, none⟩ = some (.slice (some ⟨bd, 0, none⟩) (2 * g) kd) ∧
      (w.setCell ⟨be, c, none⟩ (.int .i64 (-1))).cell? ⟨bd, flp c, none⟩ = some (.int .i64 x2) ∧ (w.setCell ⟨be, c, none⟩ (.int .i64 (-1))).frozen? ⟨bd, flp c, none⟩ = false ∧
      StP base b wd lim ((w.setCell ⟨be, c, none⟩ (.int .i64 (-1))).setCell ⟨bd, flp c, none⟩ (.int .i64 (-1))) { s with t := cutT s.t e c } ∧ Below base w ((w.setCell ⟨be, c, none⟩ (.int .i64 (-1))).setCell ⟨bd, flp c, none⟩ (.int .i64 (-1))) := by
  obtain ⟨hb, P, vr, vp, vq, bl, cs, hB, hC⟩ := hS
  have hdl : (s.t.at e c).toNat < s.t.length := by have := (hI.bd e he c hc).2; omega
  have hle := hI.len e he
  have hld := hI.len _ hdl
  have hf := flp_lt2 hc
  obtain ⟨gr, cr, rfl, r1, r2, r3⟩ := hC.at_ he (c := c) (by omega)
  obtain ⟨gr', cr', e', p1, p2, p3⟩ := hC.at_ hdl (c := flp c) (by omega)
  injection e' with e1 e2 e3
  injection e1 with e1
  injection e1 with e1
  subst e1
  have hC1 := hC.set he (c := c) (by omega) (-1)
  have hbe := hC.row e he
  obtain ⟨Ce, hCe, -⟩ := id hbe.2.1
  have hB1 := hB.other ⟨Ce, hCe⟩ (by decide) c (.int .i64 (-1))
  have hlen1 : ({ s with t := set2 s.t e c (-1) } : St).t.length = s.t.length := length_set2 _ _ _ _
  obtain ⟨gr', cr', e', q1, q2, q3⟩ := hC1.at_ (r := (s.t.at e c).toNat) (c := flp c) (by rw [hlen1]; exact hdl) (by simp only [rowlen_set2]; omega)
  injection e' with e1 e2 e3
  injection e1 with e1
  injection e1 with e1
  subst e1
  have hC2 := hC1.set (r := (s.t.at e c).toNat) (c := flp c) (by rw [hlen1]; exact hdl) (by simp only [rowlen_set2]; omega) (-1)
  have hbd := hC1.row (s.t.at e c).toNat (by rw [hlen1]; exact hdl)
  obtain ⟨Cd, hCd, -⟩ := id hbd.2.1
  have hB2 := hB1.other ⟨Cd, hCd⟩ (by decide) (flp c) (.int .i64 (-1))
  simp only [rowlen_set2] at q1
  rw [hld] at q1 p1
  rw [hle] at r1
  exact ⟨gr, cr, bl e, cs e, bl (s.t.at e c).toNat, cs (s.t.at e c).toNat, _, hB.cells.2.2.1, r1, p1, r2, r3, hB1.cells.2.2.1, q1, q2, q3, ⟨hb, P, _, vp, vq, bl, cs, hB2.of rfl rfl, hC2⟩, ((Below.refl base w).setCell hbe.1 _).setCell hbd.1 _⟩
set_option maxRecDepth 100000 in
set_option maxHeartbeats 4000000 in
theorem coincide152_any (g m base b lim x y : Nat) (hm : m = 2 * g) (w : World) (s : St) (hr : Ct.Rest g s) (hg : g ≤ 16) (hS : StP base b m lim w s) (hbw : base ≤ w.heap.size) (hx : x < s.t.length) (hy : y < s.t.length) (hn : s.t.length ≤ 1000000) :
    Calls Tryz.prog 100 #[.pointer (some ⟨b, 0, none⟩), .int .i64 (x : Int), .int .i64 (y : Int)] w fun e w' => e = .returned (.tuple #[]) ∧ StP base b m lim w' (coinS m s x y) ∧ Below base w w' := by
  obtain ⟨A, c, q1, q2, -, q3, q4, q5, q6⟩ := hS.que
  have h0 : Inv g { s with q := [] } := ⟨hr.inv.len, hr.inv.bd, hr.inv.rl, hr.inv.rle, hr.inv.rid, hr.inv.back⟩
  have hq0 : QI g 0 0 { s with q := [] } := ⟨fun x hx hd c hc h0 => absurd h0 (by have := hr.dead x hx hd c hc; simp only at h0; omega), fun j hj => absurd hj (by simp), Nat.zero_le _, hr.lv⟩
  have hm1 := h0.merge (a := x) (b := y) hx hy
  have hqm := hq0.merge h0 (.inr ⟨rfl, rfl⟩) (a := x) (b := y) hx hy
  have hlv : -1000000 ≤ s.live ∧ s.live ≤ 1000000 := by
    have h1 := hr.lv
    have h2 := dc_le s
    omega
  have hbb : base ≤ b := hS.1
  have HME := Lib.hid fun W (h : StP base b m lim W { s with q := [] }) (hw : base ≤ W.heap.size) => merge155_any g base b m lim x y W { s with q := [] } h0 h hw hx hy hn (by simp) hlv.1 hlv.2
  have hml : (mergeS { s with q := [] } x y).t.length = s.t.length := by rw [t_merge]
  have HS0 := Lib.hid (q3 hbb)
  have HB0 : Hid (Below base w (w.setCell ⟨b, 4, none⟩ (.slice A 0 c))) := Lib.hid ((Below.refl base w).setCell hbb _)
  have HEND : Hid (∀ k, (coinTo m k (mergeS { s with q := [] } x y)).q.length ≤ k → k ≤ s.t.length → coinS m s x y = coinTo m k (mergeS { s with q := [] } x y)) := Lib.hid fun k h1 h2 => coinTo_stop _ _ h1 _ h2
  have HALL : Hid (∀ k, Inv g (coinTo m k (mergeS { s with q := [] } x y)) ∧ (coinTo m k (mergeS { s with q := [] } x y)).t.length = s.t.length ∧ QI g (min k (coinTo m k (mergeS { s with q := [] } x y)).q.length) 0 (coinTo m k (mergeS { s with q := [] } x y))) := Lib.hid fun k => by
    obtain ⟨a1, a2, a3, -⟩ := coinTo_inv hm1 hqm k
    rw [← hm] at a1 a2 a3
    exact ⟨a1, a2.n.trans hml, a3⟩
  generalize mergeS { s with q := [] } x y = s1 at *
  generalize hse : coinS m s x y = se at *
  generalize hs0 : ({ s with q := [] } : St) = s0 at *
  generalize s.t.length = n at *
  have HBW := Lib.hid hbw
  have HM := Lib.hid hm
  have hm0 : (m : Int) ≤ 32 := by omega
  have hn0 : (n : Int) ≤ 1000000 := by omega
  clear h0 hq0 hm1 hqm hr hS q3 hml hbw hbb hse hs0 q4 q6 hlv hm
  have Q5 := Lib.hid q5
  clear q5
  go_enter Tryz.func100, Tryz.ntmps100
  go_wp2_with (first
    | ((with_reducible refine wpList_sel 17 ?_); refine wpList_val rfl (r_slice0 (.tmp 16) A _ c rfl rfl Q5.out) ?_)
    | (go_at_call 106; (with_reducible refine (HME.out _ HS0.out (Nat.le_trans HBW.out HB0.out.size)).mono ?_); rintro e w1 ⟨rfl, hs1, hb1⟩
       have HS1 := Lib.hid hs1
       have HB1 := Lib.hid (HB0.out.trans hb1)
       clear hs1 hb1))
  clear q1 q2 HS0 HB0 HME Q5
  go_loopw [6] (fun i wr => ∃ k : Nat, i = .int .i64 k ∧ k ≤ n ∧ Hid (StP base b m lim wr (coinTo m k s1)) ∧ Hid (Below base w wr)) (fun i _ => n - (intOf i).toNat)
  case atStart => exact ⟨0, rfl, Nat.zero_le _, HS1, HB1⟩
  case round =>
    obtain ⟨k, rfl, hkn, HS, HB⟩ := hrel
    clear HS1 HB1
    have hk0 : (0 : Int) ≤ (k : Int) := Int.natCast_nonneg _
    obtain ⟨a1, a2, a3⟩ := HALL.out k
    obtain ⟨A2, c2, q1, -, q3, -⟩ := HS.out.que
    have hql : (coinTo m k s1).q.length ≤ n := by have := a3.cnt; have := dc_le (coinTo m k s1); omega
    by_cases hlt : k < (coinTo m k s1).q.length
    · rw [show min k (coinTo m k s1).q.length = k by omega] at a3
      obtain ⟨gq, rfl, hcc⟩ := q3 (by omega)
      have hck := hcc k hlt
      have hPQ := fun c (hc : c ≤ 2 * g) => proc_q a1 a3 hlt c hc
      have HN1 := Lib.hid (coinTo_succ m k s1 hlt)
      have hel := (a3.qd k hlt).1
      have c0 := HS.out.width.1
      rw [a2] at hel
      generalize coinTo m k s1 = sk at *
      generalize sk.q.getD k 0 = e at *
      have HPQ : Hid (∀ c, c ≤ m → Inv g (procTo e c sk) ∧ QI g k c (procTo e c sk) ∧ (procTo e c sk).t.length = n) := Lib.hid fun c hc => by
        obtain ⟨p1, p2, p3, -⟩ := hPQ c (by rw [← HM.out]; exact hc)
        exact ⟨p1, p3, p2.n.trans a2⟩
      have he0 : (0 : Int) ≤ (e : Int) := Int.natCast_nonneg _
      have he1 : (e : Int) < (n : Int) := by omega
      have hkl : (k : Int) < (sk.q.length : Int) := by omega
      have hqn : (sk.q.length : Int) ≤ (n : Int) := by omega
      clear a1 a2 a3 q3 hcc hPQ
      go_wp2_with fail
      go_loopw [44] (fun j wi => ∃ c : Nat, j = .int .i64 c ∧ c ≤ m ∧ Hid (StP base b m lim wi (procTo e c sk)) ∧ Hid (Below base w wi)) (fun j _ => m - (intOf j).toNat)
      case atStart => exact ⟨0, rfl, Nat.zero_le _, HS, HB⟩
      case round =>
        clear q1 hck c0 HS HB
        obtain ⟨c, rfl, hcm, HS, HB⟩ := hrel
        have hc0 : (0 : Int) ≤ (c : Int) := Int.natCast_nonneg _
        by_cases hc : c < m
        · have hcI : (c : Int) < (m : Int) := by omega
          obtain ⟨hI, hQ, hL⟩ := HPQ.out c hcm
          have HSTEP : Hid (procTo e (c + 1) sk = stepS e c (procTo e c sk)) := Lib.hid rfl
          have hlv : -1000000 ≤ (procTo e c sk).live ∧ (procTo e c sk).live ≤ 1000000 := by
            have h1 := hQ.lv
            have h2 := dc_le (procTo e c sk)
            omega
          have hqs : (procTo e c sk).q.length ≤ 1000000 := by
            have h1 := hQ.cnt
            have h2 := dc_le (procTo e c sk)
            omega
          generalize hsn : procTo e (c + 1) sk = sn at *
          have HSN := Lib.hid hsn
          clear hsn
          generalize procTo e c sk = sc at *
          have hel' : e < sc.t.length := by omega
          have hcg : c < 2 * g := by rw [← HM.out]; exact hc
          have hbd := hI.bd e hel' c hcg
          by_cases hd : sc.t.at e c < 0
          · have HE : Hid (stepS e c sc = sc) := Lib.hid (by unfold stepS; rw [if_pos hd])
            obtain ⟨gr, cr, be, ke, f1, f2, f3⟩ := HS.out.at_ hI hel' hcg
            rw [hL] at f1
            rw [← HM.out] at f2
            have hbd1 := hbd.1
            clear hI hQ hbd hlv hqs
            generalize sc.t.at e c = d at *
            go_wp2_with fail
            go_roundw
            case rel => exact ⟨c + 1, by go_num, by omega, by rw [HSN.out, HSTEP.out, HE.out]; exact HS, HB⟩
            case measure => simp [intOf]; omega
          · obtain ⟨d, hde⟩ : ∃ d : Nat, sc.t.at e c = (d : Int) := ⟨(sc.t.at e c).toNat, by omega⟩
            have hd' : 0 ≤ sc.t.at e c := by omega
            obtain ⟨gr, cr, be, ke, bd, kd, x2, f1, f2, f3, f4, f5, g1, g2, g3, g4, hst, hbe⟩ := HS.out.drew.cut hI hel' hcg hd'
            have hcut := hI.cut hel' hcg hd'
            rw [hde] at f3 f4 g2 hbd
            rw [Int.toNat_natCast] at f3 g2
            rw [hL] at f1 g1
            rw [← HM.out] at f2 f3 g2
            have hdl : d < n := by omega
            have hfl : flp c < m := by rw [HM.out]; exact flp_lt2 hcg
            have HXE := Lib.hid (flp_eq c (by omega))
            have HF4 := Lib.hid f4
            have HF5 := Lib.hid f5
            have HG3 := Lib.hid g3
            have HG4 := Lib.hid g4
            have HST := Lib.hid hst
            have HBE := Lib.hid ((HB.out.trans ((Below.refl wr.heap.size wr).drew.mono (Nat.le_trans HBW.out HB.out.size))).trans hbe)
            have HCUT := Lib.hid hcut
            have HCW : Hid (∀ W, (W = wr.drew ∨ W = wr.drew.setCell ⟨be, c, none⟩ (.int .i64 (-1))) → W.cell? ⟨b, 2, none⟩ = some (.slice (some ⟨gr, 0, none⟩) n cr) ∧ W.cell? ⟨gr, d, none⟩ = some (.slice (some ⟨bd, 0, none⟩) m kd)) := Lib.hid fun W hW => by
              rcases hW with rfl | rfl
              · exact ⟨f1, f3⟩
              · exact ⟨g1, g2⟩
            have HCE : Hid (∀ W, W = wr.drew → W.cell? ⟨gr, e, none⟩ = some (.slice (some ⟨be, 0, none⟩) m ke)) := Lib.hid fun W hW => by rw [hW]; exact f2
            have p1 : wr.cell? ⟨b, 2, none⟩ = some (.slice (some ⟨gr, 0, none⟩) n cr) := f1
            have p2 : wr.cell? ⟨gr, e, none⟩ = some (.slice (some ⟨be, 0, none⟩) m ke) := f2
            have p3 : wr.cell? ⟨be, c, none⟩ = some (.int .i64 (d : Int)) := f4
            have hd0 : (0 : Int) ≤ (d : Int) := Int.natCast_nonneg _
            have HSE : Hid (stepS e c sc = if 0 ≤ (cutT sc.t e c).at (sc.rp e) c then mergeS { sc with t := cutT sc.t e c } ((cutT sc.t e c).at (sc.rp e) c).toNat (sc.rp d) else
                if 0 ≤ (cutT sc.t e c).at (sc.rp d) (flp c) then mergeS { sc with t := cutT sc.t e c } ((cutT sc.t e c).at (sc.rp d) (flp c)).toNat (sc.rp e) else { sc with t := joinT (cutT sc.t e c) (sc.rp e) c (sc.rp d) }) := Lib.hid (by
              unfold stepS
              rw [if_neg hd, hde, Int.toNat_natCast])
            clear f1 f2 f3 f4 f5 g1 g2 g3 g4 hst hbe hd hd' hbd hcut
            go_wp2_with fail
            refine (wpIn_wide (n := 3)).1 ?_
            refine wpIn_region_all (by kernel_rfl) 21 rfl (fun i => if i < 18 then some (59 + i) else if i = 18 then none else if i = 19 then some 77 else none) (lex_of (by kernel_rfl)) (fun ls W => W = bif ls 20 then (wr.drew.setCell ⟨be, c, none⟩ (.int .i64 (-1))).setCell ⟨bd, flp c, none⟩ (.int .i64 (-1)) else bif ls 18 then wr.drew.setCell ⟨be, c, none⟩ (.int .i64 (-1)) else wr.drew)
              (fun i v _ => v = ([.pointer (some ⟨b, 0, none⟩), .pointer (some ⟨b, 0, none⟩), .pointer (some ⟨b, 2, none⟩), .slice (some ⟨gr, 0, none⟩) n cr, .int .i64 (e : Int), .pointer (some ⟨gr, e, none⟩), .slice (some ⟨be, 0, none⟩) m ke, .int .i64 (c : Int), .pointer (some ⟨b, 0, none⟩), .pointer (some ⟨b, 0, none⟩), .pointer (some ⟨b, 2, none⟩), .slice (some ⟨gr, 0, none⟩) n cr, .int .i64 (d : Int), .pointer (some ⟨gr, d, none⟩), .slice (some ⟨bd, 0, none⟩) m kd, .int .i64 (c : Int), .int .i64 ((flp c : Nat) : Int), .pointer (some ⟨be, c, none⟩), undef, .pointer (some ⟨bd, (flp c), none⟩), undef] : List Value).getD i undef) (fun _ _ _ => True) (dm_inj (by kernel_rfl)) (fun _ _ _ _ _ _ _ _ _ h => h) (dm_lt (n := 142) (by kernel_rfl)) rfl ?_ ?_
            · intro ls q o a w2 hq ho hS2 hls hcl hP hpre
              have hcases : q = 0 ∨ q = 1 ∨ q = 2 ∨ q = 3 ∨ q = 4 ∨ q = 5 ∨ q = 6 ∨ q = 7 ∨ q = 8 ∨ q = 9 ∨ q = 10 ∨ q = 11 ∨ q = 12 ∨ q = 13 ∨ q = 14 ∨ q = 15 ∨ q = 16 ∨ q = 17 ∨ q = 18 ∨ q = 19 ∨ q = 20 := by
                have : q < 21 := hq
                omega
              rcases hcases with rfl | rfl | rfl | rfl | rfl | rfl | rfl | rfl | rfl | rfl | rfl | rfl | rfl | rfl | rfl | rfl | rfl | rfl | rfl | rfl | rfl
              · obtain rfl := Option.some.inj ho
                exact wpOpIn_of rfl rfl (wpW_val (r_move (.tmp 0) rfl (hP.out 0 (dm_out (by kernel_rfl)))) ⟨_, rfl, hS2, trivial, (fun h => by simp at h), rfl⟩)
              · obtain rfl := Option.some.inj ho
                exact wpOpIn_of rfl rfl (wpW_val (r_nil (.tmp 59) _ rfl (hpre ⟨0, .data⟩ (by simp) rfl).2) ⟨_, rfl, hS2, trivial, (fun h => by simp at h), rfl⟩)
              · obtain rfl := Option.some.inj ho
                exact wpOpIn_of rfl rfl (wpW_val (r_fld (.tmp 60) _ rfl (hpre ⟨1, .data⟩ (by simp) rfl).2 (fld116_2 b _)) ⟨_, rfl, hS2, trivial, (fun h => by simp at h), rfl⟩)
              · obtain rfl := Option.some.inj ho
                have h20 := not_yet hcl 20 rfl ⟨3, .phase⟩ (by simp) rfl hls
                have hw := sel2 hS2 h20
                exact wpOpIn_of rfl rfl (wpW_val (r_load1 28 agg22 (.tmp 61) ⟨b, 2, none⟩ rfl (hpre ⟨2, .data⟩ (by simp) rfl).2 (HCW.out _ hw).1) ⟨_, rfl, hS2, trivial, (fun h => by simp at h), rfl⟩)
              · obtain rfl := Option.some.inj ho
                exact wpOpIn_of rfl rfl (wpW_val (r_move (.tmp 7) rfl (hP.out 7 (dm_out (by kernel_rfl)))) ⟨_, rfl, hS2, trivial, (fun h => by simp at h), rfl⟩)
              · obtain rfl := Option.some.inj ho
                exact wpOpIn_of rfl rfl (wpW_val (r_idx (.tmp 62) (.tmp 63) _ _ rfl (hpre ⟨3, .data⟩ (by simp) rfl).2 (hpre ⟨4, .data⟩ (by simp) rfl).2 (idx_sl Tryz.underlying28 size24 gr _ cr e hel _)) ⟨_, rfl, hS2, trivial, (fun h => by simp at h), rfl⟩)
              · obtain rfl := Option.some.inj ho
                have h20 := not_yet hcl 20 rfl ⟨6, .phase⟩ (by simp) rfl hls
                have h18 := not_yet hcl 18 rfl ⟨6, .phase⟩ (by simp) rfl hls
                exact wpOpIn_of rfl rfl (wpW_val (r_load1 22 agg24 (.tmp 64) ⟨gr, e, none⟩ rfl (hpre ⟨5, .data⟩ (by simp) rfl).2 (HCE.out _ (sel3 hS2 h20 h18))) ⟨_, rfl, hS2, trivial, (fun h => by simp at h), rfl⟩)
              · obtain rfl := Option.some.inj ho
                exact wpOpIn_of rfl rfl (wpW_val (r_move (.tmp 8) rfl (hP.out 8 (dm_out (by kernel_rfl)))) ⟨_, rfl, hS2, trivial, (fun h => by simp at h), rfl⟩)
              · obtain rfl := Option.some.inj ho
                exact wpOpIn_of rfl rfl (wpW_val (r_move (.tmp 0) rfl (hP.out 0 (dm_out (by kernel_rfl)))) ⟨_, rfl, hS2, trivial, (fun h => by simp at h), rfl⟩)
              · obtain rfl := Option.some.inj ho
                exact wpOpIn_of rfl rfl (wpW_val (r_nil (.tmp 67) _ rfl (hpre ⟨8, .data⟩ (by simp) rfl).2) ⟨_, rfl, hS2, trivial, (fun h => by simp at h), rfl⟩)
              · obtain rfl := Option.some.inj ho
                exact wpOpIn_of rfl rfl (wpW_val (r_fld (.tmp 68) _ rfl (hpre ⟨9, .data⟩ (by simp) rfl).2 (fld116_2 b _)) ⟨_, rfl, hS2, trivial, (fun h => by simp at h), rfl⟩)
              · obtain rfl := Option.some.inj ho
                have h20 := not_yet hcl 20 rfl ⟨11, .phase⟩ (by simp) rfl hls
                have hw := sel2 hS2 h20
                exact wpOpIn_of rfl rfl (wpW_val (r_load1 28 agg22 (.tmp 69) ⟨b, 2, none⟩ rfl (hpre ⟨10, .data⟩ (by simp) rfl).2 (HCW.out _ hw).1) ⟨_, rfl, hS2, trivial, (fun h => by simp at h), rfl⟩)
              · obtain rfl := Option.some.inj ho
                exact wpOpIn_of rfl rfl (wpW_val (r_move (.tmp 9) rfl (hP.out 9 (dm_out (by kernel_rfl)))) ⟨_, rfl, hS2, trivial, (fun h => by simp at h), rfl⟩)
              · obtain rfl := Option.some.inj ho
                exact wpOpIn_of rfl rfl (wpW_val (r_idx (.tmp 70) (.tmp 71) _ _ rfl (hpre ⟨11, .data⟩ (by simp) rfl).2 (hpre ⟨12, .data⟩ (by simp) rfl).2 (idx_sl Tryz.underlying28 size24 gr _ cr d hdl _)) ⟨_, rfl, hS2, trivial, (fun h => by simp at h), rfl⟩)
              · obtain rfl := Option.some.inj ho
                have h20 := not_yet hcl 20 rfl ⟨14, .phase⟩ (by simp) rfl hls
                have hw := sel2 hS2 h20
                exact wpOpIn_of rfl rfl (wpW_val (r_load1 22 agg24 (.tmp 72) ⟨gr, d, none⟩ rfl (hpre ⟨13, .data⟩ (by simp) rfl).2 (HCW.out _ hw).2) ⟨_, rfl, hS2, trivial, (fun h => by simp at h), rfl⟩)
              · obtain rfl := Option.some.inj ho
                exact wpOpIn_of rfl rfl (wpW_val (r_move (.tmp 8) rfl (hP.out 8 (dm_out (by kernel_rfl)))) ⟨_, rfl, hS2, trivial, (fun h => by simp at h), rfl⟩)
              · obtain rfl := Option.some.inj ho
                exact wpOpIn_of rfl rfl (wpW_val (r_xor (.tmp 74) (c : Int) _ rfl (hpre ⟨15, .data⟩ (by simp) rfl).2 HXE.out) ⟨_, rfl, hS2, trivial, (fun h => by simp at h), rfl⟩)
              · obtain rfl := Option.some.inj ho
                exact wpOpIn_of rfl rfl (wpW_val (r_idx (.tmp 65) (.tmp 66) _ _ rfl (hpre ⟨6, .data⟩ (by simp) rfl).2 (hpre ⟨7, .data⟩ (by simp) rfl).2 (idx_sl Tryz.underlying22 size3 be _ ke c hc _)) ⟨_, rfl, hS2, trivial, (fun h => by simp at h), rfl⟩)
              · obtain rfl := Option.some.inj ho
                have h20 := not_yet hcl 20 rfl ⟨18, .chain⟩ (by simp) rfl hls
                have hw := sel3 hS2 h20 hls
                subst hw
                exact wpOpIn_of rfl rfl (wpW_skip (r_store1 3 (.tmp 76) (.const (.int .i64 (-1))) _ _ _ rfl (hpre ⟨17, .data⟩ (by simp) rfl).2 rfl rfl HF4.out HF5.out (st3 _ _ _ HF4.out HF5.out)) ⟨undef, rfl, (by show _ = bif ls 20 then _ else _; rw [h20]; rfl), trivial, fun _ => rfl, rfl⟩)
              · obtain rfl := Option.some.inj ho
                exact wpOpIn_of rfl rfl (wpW_val (r_idx (.tmp 73) (.tmp 75) _ _ rfl (hpre ⟨14, .data⟩ (by simp) rfl).2 (hpre ⟨16, .data⟩ (by simp) rfl).2 (idx_sl Tryz.underlying22 size3 bd _ kd (flp c) hfl _)) ⟨_, rfl, hS2, trivial, (fun h => by simp at h), rfl⟩)
              · obtain rfl := Option.some.inj ho
                have h18 : ls 18 = true := (hpre ⟨18, .chain⟩ (by simp) rfl).1
                rw [hls, h18] at hS2
                change w2 = wr.drew.setCell ⟨be, c, none⟩ (.int .i64 (-1)) at hS2
                subst hS2
                exact wpOpIn_of rfl rfl (wpW_skip (r_store1 3 (.tmp 77) (.const (.int .i64 (-1))) _ _ _ rfl (hpre ⟨19, .data⟩ (by simp) rfl).2 rfl rfl HG3.out HG4.out (st3 _ _ _ HG3.out HG4.out)) ⟨undef, rfl, rfl, trivial, fun _ => rfl, rfl⟩)
            · intro ls a w2 hall hS2 hP hsl
              have h20 : ls 20 = true := hall 20 (by decide)
              rw [h20] at hS2
              obtain ⟨vs, hvs, hfr⟩ := hP.frame 142 rfl
              clear hsl hP hall h20 hvs HCW HCE HF4 HF5 HG3 HG4
              subst hfr
              subst hS2
              dsimp only
              simp only [List.range, List.range.loop, List.map_cons, List.map_nil, List.any_cons, List.any_nil, Nat.reduceAdd, Nat.reduceBEq, Nat.reduceLT, Nat.reduceEqDiff, Option.some_beq_some, Bool.or_false, if_true, if_false, List.getD_cons_zero, List.getD_cons_succ, cond_true]
              generalize hs1e : ({ sc with t := cutT sc.t e c } : St) = s2 at *
              have hL2 : s2.t.length = n := by rw [← hs1e]; exact (length_cut _ _ _).trans hL
              have ht2 : s2.t = cutT sc.t e c := by rw [← hs1e]
              have hrp : ∀ z, s2.rp z = sc.rp z := fun z => by rw [← hs1e]; rfl
              have hlv2 : -1000000 ≤ s2.live ∧ s2.live ≤ 1000000 := by rw [← hs1e]; exact hlv
              have hqs2 : s2.q.length ≤ 1000000 := by rw [← hs1e]; exact hqs
              rw [← ht2, ← hrp e, ← hrp d] at HSE
              have hu : s2.rp e < n := by have := HCUT.out.rlt (x := e) (by omega); omega
              have hv : s2.rp d < n := by have := HCUT.out.rlt (x := d) (by omega); omega
              have hb1 := HCUT.out.bd (s2.rp e) (by omega) c hcg
              have hb2 := HCUT.out.bd (s2.rp d) (by omega) (flp c) (flp_lt2 hcg)
              have HFE := Lib.hid fun W (h : StP base b m lim W s2) => find156_any g base b m lim e W s2 HCUT.out h (by omega) (by omega)
              have HFD := Lib.hid fun W (h : StP base b m lim W s2) => find156_any g base b m lim d W s2 HCUT.out h (by omega) (by omega)
              have HAE : Hid (∀ W, StP base b m lim W s2 → ∃ gr cr br k, W.cell? ⟨b, 2, none⟩ = some (.slice (some ⟨gr, 0, none⟩) n cr) ∧ W.cell? ⟨gr, s2.rp e, none⟩ = some (.slice (some ⟨br, 0, none⟩) m k) ∧ W.cell? ⟨br, c, none⟩ = some (.int .i64 (s2.t.at (s2.rp e) c))) := Lib.hid fun W h => by
                obtain ⟨gr, cr, br, k, h1, h2, h3⟩ := h.at_ HCUT.out (r := s2.rp e) (c := c) (by omega) hcg
                rw [hL2] at h1
                rw [← HM.out] at h2
                exact ⟨gr, cr, br, k, h1, h2, h3⟩
              have HAD : Hid (∀ W, StP base b m lim W s2 → ∃ gr cr br k, W.cell? ⟨b, 2, none⟩ = some (.slice (some ⟨gr, 0, none⟩) n cr) ∧ W.cell? ⟨gr, s2.rp d, none⟩ = some (.slice (some ⟨br, 0, none⟩) m k) ∧ W.cell? ⟨br, flp c, none⟩ = some (.int .i64 (s2.t.at (s2.rp d) (flp c)))) := Lib.hid fun W h => by
                obtain ⟨gr, cr, br, k, h1, h2, h3⟩ := h.at_ HCUT.out (r := s2.rp d) (c := flp c) (by omega) (flp_lt2 hcg)
                rw [hL2] at h1
                rw [← HM.out] at h2
                exact ⟨gr, cr, br, k, h1, h2, h3⟩
              have HME2 : Hid (∀ W (p q : Nat), p < n → q < n → StP base b m lim W s2 → base ≤ W.heap.size → Calls Tryz.prog 106 #[.pointer (some ⟨b, 0, none⟩), .int .i64 (p : Int), .int .i64 (q : Int)] W fun e w' => e = .returned (.tuple #[]) ∧ StP base b m lim w' (mergeS s2 p q) ∧ Below base W w') := Lib.hid fun W p q hp hq h hw =>
                merge155_any g base b m lim p q W s2 HCUT.out h hw (by omega) (by omega) (by omega) hqs2 hlv2.1 hlv2.2
              have HJO : Hid (∀ W, StP base b m lim W s2 → base ≤ W.heap.size → Calls Tryz.prog 89 #[.pointer (some ⟨b, 0, none⟩), .int .i64 (s2.rp e : Int), .int .i64 (c : Int), .int .i64 (s2.rp d : Int)] W fun E w' => E = .returned (.tuple #[]) ∧ StP base b m lim w' (joinS s2 (s2.rp e) c (s2.rp d)) ∧ Below base W w') := Lib.hid fun W h hw =>
                join149_any g base b m lim (s2.rp e) c (s2.rp d) W s2 HCUT.out hg h hw (by omega) (by omega) hcg (by omega)
              have hjoin : ({ sc with t := joinT s2.t (s2.rp e) c (s2.rp d) } : St) = joinS s2 (s2.rp e) c (s2.rp d) := by rw [← hs1e]; rfl
              rw [hjoin] at HSE
              clear hjoin hs1e hlv2 hqs2 hlv hqs hrp ht2 HCUT hI hQ
              generalize s2.t.at (s2.rp e) c = y1 at *
              generalize s2.t.at (s2.rp d) (flp c) = y2 at *
              generalize joinS s2 (s2.rp e) c (s2.rp d) = sj at *
              generalize s2.rp e = u at *
              generalize s2.rp d = v at *
              have hu0 : (0 : Int) ≤ (u : Int) := Int.natCast_nonneg _
              have hv0 : (0 : Int) ≤ (v : Int) := Int.natCast_nonneg _
              have hu1 : (u : Int) < (n : Int) := by omega
              have hv1 : (v : Int) < (n : Int) := by omega
              generalize (wr.drew.setCell ⟨be, c, none⟩ (.int .i64 (-1))).setCell ⟨bd, flp c, none⟩ (.int .i64 (-1)) = w9 at *
              by_cases h1 : 0 ≤ y1
              · obtain ⟨z1, rfl⟩ : ∃ z : Nat, y1 = (z : Int) := ⟨y1.toNat, by omega⟩
                have HRES : Hid (stepS e c sc = mergeS s2 z1 v) := Lib.hid (by rw [HSE.out, if_pos h1, Int.toNat_natCast])
                have HLAST : Hid (∀ W, StP base b m lim W s2 → base ≤ W.heap.size → Calls Tryz.prog 106 #[.pointer (some ⟨b, 0, none⟩), .int .i64 (z1 : Int), .int .i64 (v : Int)] W fun E w' => E = .returned (.tuple #[]) ∧ StP base b m lim w' (mergeS s2 z1 v) ∧ Below base W w') := Lib.hid fun W h hw => HME2.out W z1 v (by omega) hv h hw
                clear HME2 HJO HAD
                generalize mergeS s2 z1 v = s9 at *
                go_wp2_with (first
                  | (go_at_call 107; (with_reducible refine (HFE.out _ HST.out).mono ?_); rintro E w10 ⟨rfl, hs1, hb1⟩
                     have HS10 := Lib.hid hs1
                     have HB10 := Lib.hid (HBE.out.trans hb1)
                     clear hs1 hb1 HFE)
                  | (go_at_call 107; (with_reducible refine (HFD.out _ HS10.out).mono ?_); rintro E w11 ⟨rfl, hs2, hb2⟩
                     have HS11 := Lib.hid hs2
                     have HB11 := Lib.hid (HB10.out.trans hb2)
                     obtain ⟨gr2, cr2, br2, k2, a1, a2, a3⟩ := HAE.out _ hs2
                     clear hs2 hb2 HFD)
                  | (go_at_call 106; (with_reducible refine (HLAST.out _ HS11.out (Nat.le_trans HBW.out HB11.out.size)).mono ?_); rintro E w12 ⟨rfl, hs3, hb3⟩
                     have HS12 := Lib.hid hs3
                     have HB12 := Lib.hid (HB11.out.trans hb3)
                     clear hs3 hb3))
                go_roundw
                case rel => exact ⟨c + 1, by go_num, by omega, by rw [HSN.out, HSTEP.out, HRES.out]; exact HS12, HB12⟩
                case measure => simp [intOf]; omega
              · have h1' : y1 < 0 := by omega
                have hfe := HXE.out
                have hf0 : (0 : Int) ≤ ((flp c : Nat) : Int) := Int.natCast_nonneg _
                have hf1 : ((flp c : Nat) : Int) < (m : Int) := by omega
                by_cases h2 : 0 ≤ y2
                · obtain ⟨z2, rfl⟩ : ∃ z : Nat, y2 = (z : Int) := ⟨y2.toNat, by omega⟩
                  have HRES : Hid (stepS e c sc = mergeS s2 z2 u) := Lib.hid (by rw [HSE.out, if_neg h1, if_pos h2, Int.toNat_natCast])
                  have HLAST : Hid (∀ W, StP base b m lim W s2 → base ≤ W.heap.size → Calls Tryz.prog 106 #[.pointer (some ⟨b, 0, none⟩), .int .i64 (z2 : Int), .int .i64 (u : Int)] W fun E w' => E = .returned (.tuple #[]) ∧ StP base b m lim w' (mergeS s2 z2 u) ∧ Below base W w') := Lib.hid fun W h hw => HME2.out W z2 u (by omega) hu h hw
                  clear HME2 HJO h1
                  generalize mergeS s2 z2 u = s9 at *
                  go_wp2_with (first
                    | (go_at_call 107; (with_reducible refine (HFE.out _ HST.out).mono ?_); rintro E w10 ⟨rfl, hs1, hb1⟩
                       have HS10 := Lib.hid hs1
                       have HB10 := Lib.hid (HBE.out.trans hb1)
                       clear hs1 hb1 HFE)
                    | (go_at_call 107; (with_reducible refine (HFD.out _ HS10.out).mono ?_); rintro E w11 ⟨rfl, hs2, hb2⟩
                       have HS11 := Lib.hid hs2
                       have HB11 := Lib.hid (HB10.out.trans hb2)
                       obtain ⟨gr2, cr2, br2, k2, a1, a2, a3⟩ := HAE.out _ hs2
                       obtain ⟨gr3, cr3, br3, k3, a4, a5, a6⟩ := HAD.out _ hs2
                       rw [a4] at a1
                       injection a1 with a1
                       injection a1 with a1 e2 e3
                       injection a1 with a1
                       injection a1 with a1
                       subst a1
                       clear e2 e3
                       clear hs2 hb2 HFD)
                    | (go_at_call 106; (with_reducible refine (HLAST.out _ HS11.out (Nat.le_trans HBW.out HB11.out.size)).mono ?_); rintro E w12 ⟨rfl, hs3, hb3⟩
                       have HS12 := Lib.hid hs3
                       have HB12 := Lib.hid (HB11.out.trans hb3)
                       clear hs3 hb3))
                  go_roundw
                  case rel => exact ⟨c + 1, by go_num, by omega, by rw [HSN.out, HSTEP.out, HRES.out]; exact HS12, HB12⟩
                  case measure => simp [intOf]; omega
                · have h2' : y2 < 0 := by omega
                  have HRES : Hid (stepS e c sc = sj) := Lib.hid (by rw [HSE.out, if_neg h1, if_neg h2])
                  have HLAST := HJO
                  clear HME2 HJO h1 h2
                  go_wp2_with (first
                    | (go_at_call 107; (with_reducible refine (HFE.out _ HST.out).mono ?_); rintro E w10 ⟨rfl, hs1, hb1⟩
                       have HS10 := Lib.hid hs1
                       have HB10 := Lib.hid (HBE.out.trans hb1)
                       clear hs1 hb1 HFE)
                    | (go_at_call 107; (with_reducible refine (HFD.out _ HS10.out).mono ?_); rintro E w11 ⟨rfl, hs2, hb2⟩
                       have HS11 := Lib.hid hs2
                       have HB11 := Lib.hid (HB10.out.trans hb2)
                       obtain ⟨gr2, cr2, br2, k2, a1, a2, a3⟩ := HAE.out _ hs2
                       obtain ⟨gr3, cr3, br3, k3, a4, a5, a6⟩ := HAD.out _ hs2
                       rw [a4] at a1
                       injection a1 with a1
                       injection a1 with a1 e2 e3
                       injection a1 with a1
                       injection a1 with a1
                       subst a1
                       clear e2 e3
                       clear hs2 hb2 HFD)
                    | (go_at_call 89; (with_reducible refine (HLAST.out _ HS11.out (Nat.le_trans HBW.out HB11.out.size)).mono ?_); rintro E w12 ⟨rfl, hs3, hb3⟩
                       have HS12 := Lib.hid hs3
                       have HB12 := Lib.hid (HB11.out.trans hb3)
                       clear hs3 hb3))
                  go_roundw
                  case rel => exact ⟨c + 1, by go_num, by omega, by rw [HSN.out, HSTEP.out, HRES.out]; exact HS12, HB12⟩
                  case measure => simp [intOf]; omega
        · have hcm' : c = m := by omega
          subst hcm'
          go_wp2_with fail
          go_roundw
          case rel => exact ⟨k + 1, by go_num, by omega, by rw [HN1.out]; exact HS, HB⟩
          case measure => simp [intOf]; omega
    · clear q3
      have HE : Hid (se = coinTo m k s1) := Lib.hid (HEND.out k (by omega) hkn)
      have hlt' : ¬ (k : Int) < ((coinTo m k s1).q.length : Int) := by omega
      have hql' : ((coinTo m k s1).q.length : Int) ≤ (n : Int) := by omega
      clear a1 a2 a3
      go_wp2_with fail
      go_end0
      exact ⟨rfl, by rw [HE.out]; exact HS.out, HB.out⟩
end Go.Proofs
