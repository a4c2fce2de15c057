/- The reference's Scan; (*coset.state).fill; The reference's Fill; (*coset.state).run. -/
import Derived.Test.YtmpnengjboabcaaGreatRgCS18
import Derived.Deep.CutBlock
import Derived.Deep.LoopGhost
namespace Go.Proofs.Ct
def outM (s : St) (r : Nat) (w : W) : Int × Int × Bool × Bool :=
  if fwd s.t r w = w.length then (0, 0, false, false) else
  if w.length ≤ fwd s.t r w + bwd s.t r w (fwd s.t r w) then (0, 0, false, false) else
  if w.length = fwd s.t r w + bwd s.t r w (fwd s.t r w) + 1 then (leadTo s.t r w (fwd s.t r w), (col (w.getD (fwd s.t r w) 0) : Nat), false, true) else
  (leadTo s.t r w (fwd s.t r w), (col (w.getD (fwd s.t r w) 0) : Nat), true, false)
end Go.Proofs.Ct
namespace Go.Proofs
open Go.RowKit Go.Shelf Go.Proofs.Ct Go.Maps
def openR (o : Int × Int × Bool × Bool) : Value := .tuple #[.int .i64 o.1, .int .i64 o.2.1, .bool o.2.2.1, .bool o.2.2.2]
theorem results_tmp4 {fn : Func} {t u v x : Tmp} (h : fn.results = #[.tmp t, .tmp u, .tmp v, .tmp x]) (tmps : Array Value) (P : Program) (w : World) :
    (results fn tmps).run P w = .ok (.tuple #[tmps.getD t undef, tmps.getD u undef, tmps.getD v undef, tmps.getD x undef]) w := by
  simp [results, h]
set_option maxRecDepth 100000 in
set_option maxHeartbeats 4000000 in
theorem scan150_any (g m base b lim r : Nat) (hm : m = 2 * g) (hg : g ≤ 16) (w : World) (s : St) (u : Value) (ws : W) (hR : Ct.Rest g s) (hS : StR base b lim w s) (hbw : base ≤ w.heap.size) (hn : s.t.length ≤ 1000000) (hu : IntsAt w u ws) (hl : LOk g ws) (hr : r < s.t.length) (hlr : s.rp r = r) :
    Calls Tryz.prog 95 #[.pointer (some ⟨b, 0, none⟩), .int .i64 (r : Int), u] w fun e w' => e = .returned (openR (outM s r ws)) ∧ StR base b lim w' (scanS m s r ws).1 ∧ Kf base w w' := by
  obtain ⟨Au, cu, rfl, hu1, hu2, hu3⟩ := hu.open_
  have HU := Lib.hid hu3
  have HR := Lib.hid hR
  have HL := Lib.hid hl
  have HLI := Lib.hid hl.inv
  have HM := Lib.hid hm
  have HBW := Lib.hid hbw
  have HS : Hid (∀ q, StR base b lim (w.drewN q) s) := Lib.hid fun q => hS.below (below_drewN (Below.refl _ _) q)
  have HBE : Hid (∀ q, Kf base w (w.drewN q)) := Lib.hid fun q => (Kf.refl _ _).drewN q
  obtain ⟨gr, cr, bl, cs, v1, v2, v3⟩ := hS.view hR.inv.len (by omega)
  have HAT : Hid (∀ r c, r < s.t.length → c < 2 * g → w.cell? ⟨gr, r, none⟩ = some (.slice (some ⟨bl r, 0, none⟩) m (cs r)) ∧ w.cell? ⟨bl r, c, none⟩ = some (.int .i64 (s.t.at r c))) := Lib.hid fun r c h1 h2 => by
    have a2 := v2 r h1
    rw [← hm] at a2
    exact ⟨a2, (v3 r c h1 h2).1⟩
  have HWR : Hid (∀ r c, r < s.t.length → c < 2 * g → w.frozen? ⟨bl r, c, none⟩ = false ∧ ∀ z, StR base b lim (w.setCell ⟨bl r, c, none⟩ (.int .i64 z)) { s with t := set2 s.t r c z } ∧ Kf base w (w.setCell ⟨bl r, c, none⟩ (.int .i64 z))) := Lib.hid fun r c h1 h2 => (v3 r c h1 h2).2
  clear v2 v3
  have HCO : Hid (∀ (x : Int) n, -(g : Int) ≤ x ∧ x ≤ g ∧ x ≠ 0 → Calls Tryz.prog 104 #[.int .i64 x] (w.drewN n) fun e w' => e = .returned (.int .i64 (col x : Nat)) ∧ w.drewN n = w') := Lib.hid fun x n h => col108_any _ _ (by omega)
  have HLV : Hid (∀ k, k ≤ ws.length → 0 ≤ leadTo s.t r ws k → (leadTo s.t r ws k).toNat < s.t.length) := Lib.hid fun k h1 h2 => (lead_live hR hl hr hlr k h1 h2).1
  have HLB : Hid (∀ k, k ≤ ws.length → 0 ≤ leadTo s.t r (Ct.inv ws) k → (leadTo s.t r (Ct.inv ws) k).toNat < s.t.length) := Lib.hid fun k h1 h2 => (lead_live hR hl.inv hr hlr k (by rw [length_inv]; exact h1) h2).1
  have HCN : Hid (∀ q x y, x < s.t.length → y < s.t.length → Calls Tryz.prog 105 #[.pointer (some ⟨b, 0, none⟩), .int .i64 (x : Int), .int .i64 (y : Int)] (w.drewN q) fun e w' => e = .returned (.tuple #[]) ∧ StR base b lim w' (coinS m s x y) ∧ Kf base (w.drewN q) w') := Lib.hid fun q x y h1 h2 =>
    coincide154_any g m base b lim x y hm _ s hR hg (HS.out q) (Nat.le_trans hbw (HBE.out q).size) h1 h2 hn
  have hgm : m ≤ 32 := by omega
  have hr0 : (0 : Int) ≤ (r : Int) := Int.natCast_nonneg _
  have hn0 : (s.t.length : Int) ≤ 1000000 := by omega
  have hws0 : (0 : Int) ≤ (ws.length : Int) := Int.natCast_nonneg _
  have hws1 : (ws.length : Int) ≤ 9223372036854775807 := by omega
  have HRB := Lib.hid (hR.inv.bd)
  clear hS hu hu3 hR hl hm hbw
  go_enter Tryz.func95, Tryz.ntmps95
  go_wp2_with fail
  go_loopw [10, 11] (fun f i wr => ∃ k z : Nat, i = .int .i64 k ∧ k ≤ ws.length ∧ f = .int .i64 (z : Int) ∧ z < s.t.length ∧ Hid ((z : Int) = leadTo s.t r ws k) ∧ Hid (∀ j, j < k → 0 ≤ leadTo s.t r ws (j + 1)) ∧ ∃ q, wr = w.drewN q) (fun _ i _ => ws.length - (intOf i).toNat)
  case atStart => exact ⟨0, r, rfl, by omega, rfl, hr, Lib.hid rfl, Lib.hid fun j hj => absurd hj (by omega), 0, rfl⟩
  case round =>
    obtain ⟨k, z, rfl, hk, rfl, hz, HZ, HJ, q, rfl⟩ := hrel
    have hk0 : (0 : Int) ≤ (k : Int) := Int.natCast_nonneg _
    have hz0 : (0 : Int) ≤ (z : Int) := Int.natCast_nonneg _
    have hzI : (z : Int) < (s.t.length : Int) := by omega
    by_cases hlt : k < ws.length
    · have hlt' : (k : Int) < (ws.length : Int) := by omega
      obtain ⟨bw, ow, rfl, hcc⟩ := HU.out (by omega)
      have hcc0 := Lib.hid hcc
      have hck := hcc k hlt
      have hx := HL.out.getD hlt
      have hcx := HL.out.col hlt
      obtain ⟨a2, a3⟩ := HAT.out z (col (ws.getD k 0)) hz hcx
      generalize hbz : bl z = br at *
      have HBZ := Lib.hid hbz
      clear hbz
      generalize cs z = kr at *
      have HNX : Hid (leadTo s.t r ws (k + 1) = s.t.at z (col (ws.getD k 0))) := Lib.hid (by
        rw [leadTo_succ, ← HZ.out, if_neg (by omega), Int.toNat_natCast])
      have hbd := HRB.out z hz _ hcx
      have HC1 : Hid (∀ n, Calls Tryz.prog 104 #[.int .i64 (ws.getD k 0)] (w.drewN n) fun e w' => e = .returned (.int .i64 (col (ws.getD k 0) : Nat)) ∧ w.drewN n = w') := Lib.hid fun n => HCO.out _ n hx
      have hc0 : (0 : Int) ≤ ((col (ws.getD k 0) : Nat) : Int) := Int.natCast_nonneg _
      have hc1 : ((col (ws.getD k 0) : Nat) : Int) < (m : Int) := by have := HM.out; omega
      clear hcc hx
      by_cases hy : s.t.at z (col (ws.getD k 0)) < 0
      · have HK : Hid (leadTo s.t r ws (k + 1) < 0) := Lib.hid (by rw [HNX.out]; exact hy)
        have HF : Hid (fwd s.t r ws = k) := Lib.hid (fwd_eq (by omega) (.inr HK.out) HJ.out)
        have d1 : ((k : Int) == (ws.length : Int)) = false := by rw [beq_eq_false_iff_ne]; omega
        have HX0 := Lib.hid hcx
        obtain ⟨hy1, hy2⟩ := hbd
        generalize s.t.at z (col (ws.getD k 0)) = y at *
        generalize hce : col (ws.getD k 0) = cx at *
        have HCE := Lib.hid hce
        clear hce
        generalize hxe : ws.getD k 0 = x at *
        have HXQ := Lib.hid hxe
        clear hxe
        go_wp2_with fail
        go_quiet ((go_at_call 104; exact quiet_add_left (HC1.out _)))
        go_wp2_with fail
        go_loopw [12, 13] (fun bb jj wr => ∃ (p v : Nat) (J : Int), p ≤ ws.length ∧ jj = .int .i64 J ∧ J = (ws.length : Int) - 1 - p ∧ bb = .int .i64 (v : Int) ∧ v < s.t.length ∧ Hid ((v : Int) = leadTo s.t r (Ct.inv ws) p) ∧ Hid (∀ j, j < p → k + j < ws.length ∧ 0 ≤ leadTo s.t r (Ct.inv ws) (j + 1)) ∧ ∃ q, wr = w.drewN q) (fun _ j _ => (intOf j + 1).toNat)
        case atStart => exact ⟨0, r, _, by omega, rfl, by omega, rfl, hr, Lib.hid rfl, Lib.hid fun j hj => absurd hj (by omega), (by first | exact ⟨_, rfl⟩ | exact ex_drewN)⟩
        case round =>
          obtain ⟨p, v, J, hp, rfl, hJ, rfl, hv, HV, HP, q2, rfl⟩ := hrel
          have hv0 : (0 : Int) ≤ (v : Int) := Int.natCast_nonneg _
          have hvI : (v : Int) < (s.t.length : Int) := by omega
          have hzne : ¬ fwd s.t r ws = ws.length := by rw [HF.out]; omega
          by_cases hkp : k + p < ws.length
          · obtain ⟨jn, rfl⟩ : ∃ jn : Nat, J = (jn : Int) := ⟨ws.length - 1 - p, by omega⟩
            have hjn : jn = ws.length - 1 - p := by omega
            have hjl : jn < ws.length := by omega
            have hj0 : (0 : Int) ≤ (jn : Int) := Int.natCast_nonneg _
            have hj1 : (jn : Int) < (ws.length : Int) := by omega
            have hj2 : (k : Int) ≤ (jn : Int) := by omega
            have d3 : decide ((k : Int) ≤ (jn : Int)) = true := decide_eq_true hj2
            have hcj := hcc0.out jn hjl
            have hx2 := HL.out.getD hjl
            have hcx2 : flp (col (ws.getD jn 0)) < 2 * g := flp_lt2 (HL.out.col hjl)
            obtain ⟨b2, b3⟩ := HAT.out v (flp (col (ws.getD jn 0))) hv hcx2
            generalize bl v = br2 at *
            generalize cs v = kr2 at *
            have HNX2 : Hid (leadTo s.t r (Ct.inv ws) (p + 1) = s.t.at v (flp (col (ws.getD jn 0)))) := Lib.hid (by
              rw [leadTo_succ, ← HV.out, if_neg (by omega), Int.toNat_natCast, inv_getD (by omega), ← hjn, col_inv hx2.2.2])
            have hbd2 := HRB.out v hv _ hcx2
            have HC2 : Hid (∀ n, Calls Tryz.prog 104 #[.int .i64 (ws.getD jn 0)] (w.drewN n) fun e w' => e = .returned (.int .i64 (col (ws.getD jn 0) : Nat)) ∧ w.drewN n = w') := Lib.hid fun n => HCO.out _ n hx2
            have hcl2 := HL.out.col hjl
            have hfe := flp_eq (col (ws.getD jn 0)) (by have := HM.out; omega)
            have hd0 : (0 : Int) ≤ ((flp (col (ws.getD jn 0)) : Nat) : Int) := Int.natCast_nonneg _
            have hd1 : ((flp (col (ws.getD jn 0)) : Nat) : Int) < (m : Int) := by have := HM.out; omega
            have hd2 : (0 : Int) ≤ ((col (ws.getD jn 0) : Nat) : Int) := Int.natCast_nonneg _
            have hd3 : ((col (ws.getD jn 0) : Nat) : Int) < (m : Int) := by have := HM.out; omega
            clear hcx2 hcl2 hx2
            generalize flp (col (ws.getD jn 0)) = cx2 at *
            generalize col (ws.getD jn 0) = kx2 at *
            generalize ws.getD jn 0 = x2 at *
            obtain ⟨hy3, hy4⟩ := hbd2
            by_cases hyy : s.t.at v cx2 < 0
            · have HB : Hid (bwd s.t r ws k = p) := Lib.hid (bwd_eq hp (.inr (by rw [HNX2.out]; exact hyy)) HP.out)
              have HBV := Lib.hid HV.out
              have hzz : (leadTo s.t r ws k).toNat = z := by rw [← HZ.out]; rfl
              have hvv : (leadTo s.t r (Ct.inv ws) p).toNat = v := by rw [← HV.out]; rfl
              have hnle : ¬ ws.length ≤ k + p := by omega
              by_cases hjk : jn = k
              · have HSC : Hid (scanS m s r ws = (joinS s z cx v, none) ∧ outM s r ws = ((z : Int), (cx : Int), false, true)) := Lib.hid ⟨by
                  unfold scanS
                  rw [if_neg hzne, HF.out, HB.out, if_neg hnle, if_pos (by omega), hzz, hvv, HXQ.out, HCE.out], by
                  unfold outM
                  rw [if_neg hzne, HF.out, HB.out, if_neg hnle, if_pos (by omega), ← HZ.out, HXQ.out, HCE.out]⟩
                have d4 : ((jn : Int) == (k : Int)) = true := by rw [hjk]; simp
                have d5 : decide ((jn : Int) < (k : Int)) = false := by simp; omega
                have hfe2 := flp_eq cx (by have := HX0.out; omega)
                have hfg : flp cx < 2 * g := flp_lt2 HX0.out
                have hfm : ((flp cx : Nat) : Int) < (m : Int) := by have := HM.out; omega
                have hfn : (0 : Int) ≤ ((flp cx : Nat) : Int) := Int.natCast_nonneg _
                obtain ⟨hwf, hwr⟩ := HWR.out z cx hz HX0.out
                rw [HBZ.out] at hwf hwr
                have hst := (hwr (v : Int)).1
                have hbe := (hwr (v : Int)).2
                have hlen2 : ({ s with t := set2 s.t z cx (v : Int) } : St).t.length = s.t.length := length_set2 _ _ _ _
                obtain ⟨gr3, cr3, bl3, cs3, q1, q2, q3⟩ := hst.view (inv_len1 HR.out.inv z cx _) (by rw [hlen2]; omega)
                have q4 := q2 v (by rw [hlen2]; omega)
                obtain ⟨q5, q6, q7⟩ := q3 v (flp cx) (by rw [hlen2]; omega) hfg
                rw [hlen2] at q1
                rw [← HM.out] at q4
                have hst2 := (q7 (z : Int)).1
                have hbe2 := hbe.trans (q7 (z : Int)).2
                clear q2 q3 q7 hlen2
                generalize bl3 v = br3 at *
                generalize cs3 v = kr3 at *
                have HST : Hid (∀ Q, StR base b lim (((w.drewN Q).setCell ⟨br, cx, none⟩ (.int .i64 (v : Int))).setCell ⟨br3, flp cx, none⟩ (.int .i64 (z : Int))) (joinS s z cx v)) := Lib.hid fun Q => hst2.below (below_drewN (Below.refl _ _) Q)
                have HBF : Hid (∀ Q, Kf base w (((w.drewN Q).setCell ⟨br, cx, none⟩ (.int .i64 (v : Int))).setCell ⟨br3, flp cx, none⟩ (.int .i64 (z : Int)))) := Lib.hid fun Q => hbe2.drewN Q
                have HQ : Hid (∀ Q, ((w.drewN Q).setCell ⟨br, cx, none⟩ (.int .i64 (v : Int))).cell? ⟨b, 0, none⟩ = some (.slice (some ⟨gr3, 0, none⟩) s.t.length cr3) ∧ ((w.drewN Q).setCell ⟨br, cx, none⟩ (.int .i64 (v : Int))).cell? ⟨gr3, v, none⟩ = some (.slice (some ⟨br3, 0, none⟩) m kr3) ∧
                    (∃ x, ((w.drewN Q).setCell ⟨br, cx, none⟩ (.int .i64 (v : Int))).cell? ⟨br3, flp cx, none⟩ = some x) ∧ ((w.drewN Q).setCell ⟨br, cx, none⟩ (.int .i64 (v : Int))).frozen? ⟨br3, flp cx, none⟩ = false) := Lib.hid fun Q => ⟨q1, q4, ⟨_, q5⟩, q6⟩
                clear hst hbe hst2 hbe2 q1 q4 q5 q6 hwr
                clear hzne hzz hvv hnle hjn hJ hjk
                go_wp2_with fail
                go_quiet ((go_at_call 104; exact quiet_add_left (HC2.out _)))
                go_upto_region 19 with (first
                  | (go_at_call 104; (with_reducible refine (HC1.out _).mono ?_); rintro E w1 ⟨rfl, rfl⟩))
                obtain ⟨q1, q4, ⟨x5, q5⟩, q6⟩ := HQ.out (q2 + nq)
                have HS9 := Lib.hid (HST.out (q2 + nq))
                have HB9 := Lib.hid (HBF.out (q2 + nq))
                clear HQ HST HBF v1 a2 a3 b2 b3 hwf
                generalize (w.drewN (q2 + nq)).setCell ⟨br, cx, none⟩ (.int .i64 (v : Int)) = w9 at *
                go_wp2_with fail
                try simp only [Exit.inBlock, Exit.then]
                refine bodyPost_ret (results_tmp4 rfl _ _ _) rfl ?_
                exact ⟨by rw [HSC.out.2]; rfl, by rw [HSC.out.1]; exact HS9.out, HB9.out⟩
              · have HSC : Hid (scanS m s r ws = (s, some (z, cx)) ∧ outM s r ws = ((z : Int), (cx : Int), true, false)) := Lib.hid ⟨by
                  unfold scanS
                  rw [if_neg hzne, HF.out, HB.out, if_neg hnle, if_neg (by omega), hzz, HXQ.out, HCE.out], by
                  unfold outM
                  rw [if_neg hzne, HF.out, HB.out, if_neg hnle, if_neg (by omega), ← HZ.out, HXQ.out, HCE.out]⟩
                have d4 : ((jn : Int) == (k : Int)) = false := by rw [beq_eq_false_iff_ne]; omega
                have d5 : decide ((jn : Int) < (k : Int)) = false := by simp; omega
                clear hzne hzz hvv hnle hjn hJ hjk
                go_wp2_with fail
                go_quiet ((go_at_call 104; exact quiet_add_left (HC2.out _)))
                go_wp2_with (first
                  | (go_at_call 104; (with_reducible refine (HC1.out _).mono ?_); rintro E w1 ⟨rfl, rfl⟩))
                try simp only [Exit.inBlock, Exit.then]
                refine bodyPost_ret (results_tmp4 rfl _ _ _) rfl ?_
                exact ⟨by rw [HSC.out.2]; rfl, by rw [HSC.out.1]; exact HS.out _, HBE.out _⟩
            · obtain ⟨v', hv'⟩ : ∃ v' : Nat, s.t.at v cx2 = v' := ⟨(s.t.at v cx2).toNat, by omega⟩
              rw [hv'] at b3 HNX2 hy4
              have HJN : Hid ((jn : Int) = (ws.length : Int) - 1 - p) := Lib.hid (by omega)
              clear hyy hv' hjn hJ
              have hv1 : (0 : Int) ≤ (v' : Int) := Int.natCast_nonneg _
              go_wp2_with fail
              go_quiet ((go_at_call 104; exact quiet_add_left (HC2.out _)))
              go_wp2_with fail
              go_quiet ((go_at_call 104; exact quiet_add_left (HC2.out _)))
              go_wp2_with fail
              go_roundw
              case rel => exact ⟨p + 1, v', _, by omega, rfl, by have := HJN.out; omega, rfl, by omega, Lib.hid HNX2.out.symm, Lib.hid (all_succ HP.out ⟨hkp, by rw [HNX2.out]; omega⟩), (by first | exact ⟨_, rfl⟩ | exact ex_drewN)⟩
              case measure => simp [intOf]
          · have HB : Hid (bwd s.t r ws k = p) := Lib.hid (bwd_eq hp (.inl (by omega)) HP.out)
            have hzz : (leadTo s.t r ws k).toNat = z := by rw [← HZ.out]; rfl
            have hvv : (leadTo s.t r (Ct.inv ws) p).toNat = v := by rw [← HV.out]; rfl
            have HSC : Hid (scanS m s r ws = (coinS m s z v, none) ∧ outM s r ws = (0, 0, false, false)) := Lib.hid ⟨by
              unfold scanS
              rw [if_neg hzne, HF.out, HB.out, if_pos (by omega), hzz, hvv], by
              unfold outM
              rw [if_neg hzne, HF.out, HB.out, if_pos (by omega)]⟩
            have hJk : J < (k : Int) := by omega
            have d3 : decide ((k : Int) ≤ J) = false := by simp; omega
            have d5 : decide (J < (k : Int)) = true := by simp; omega
            have HC3 := Lib.hid fun q => HCN.out q z v hz hv
            clear hzne hzz hvv hkp hJ
            go_wp2_with fail
            go_quiet (fail)
            go_wp2_with (first
              | (go_at_call 104; (with_reducible refine (HC1.out _).mono ?_); rintro E w1 ⟨rfl, rfl⟩)
              | (go_at_call 105; (with_reducible refine (HC3.out _).mono ?_); rintro E w1 ⟨rfl, hs1, hb1⟩
                 have HS1 := Lib.hid hs1
                 have HB1 := Lib.hid hb1
                 clear hs1 hb1))
            try simp only [Exit.inBlock, Exit.then]
            refine bodyPost_ret (results_tmp4 rfl _ _ _) rfl ?_
            exact ⟨by rw [HSC.out.2]; rfl, by rw [HSC.out.1]; exact HS1.out, (HBE.out _).trans HB1.out⟩
      · obtain ⟨z', hz'⟩ : ∃ z' : Nat, s.t.at z (col (ws.getD k 0)) = z' := ⟨(s.t.at z (col (ws.getD k 0))).toNat, by omega⟩
        rw [hz'] at a3 hbd HNX
        clear hy hz'
        generalize col (ws.getD k 0) = cx at *
        generalize ws.getD k 0 = x at *
        obtain ⟨hy1, hy2⟩ := hbd
        have hz1 : (0 : Int) ≤ (z' : Int) := Int.natCast_nonneg _
        go_wp2_with fail
        go_quiet ((go_at_call 104; exact quiet_add_left (HC1.out _)))
        go_wp2_with fail
        go_quiet ((go_at_call 104; exact quiet_add_left (HC1.out _)))
        go_wp2_with fail
        go_roundw
        case rel => exact ⟨k + 1, z', by go_num, by omega, rfl, by omega, Lib.hid HNX.out.symm, all_succ HJ.out (by rw [HNX.out]; omega), (by first | exact ⟨_, rfl⟩ | exact ex_drewN)⟩
        case measure => simp [intOf]; omega
    · obtain rfl : k = ws.length := by omega
      have HF : Hid (fwd s.t r ws = ws.length) := Lib.hid (fwd_eq (Nat.le_refl _) (.inl rfl) HJ.out)
      by_cases hzr : z = r
      · have HSC : Hid (scanS m s r ws = (s, none) ∧ outM s r ws = (0, 0, false, false)) := Lib.hid ⟨by unfold scanS; rw [if_pos HF.out, HF.out, ← HZ.out, if_pos (by rw [hzr])], by unfold outM; rw [if_pos HF.out]⟩
        have d1 : ((z : Int) != (r : Int)) = false := by rw [hzr]; simp
        have d2 : ((ws.length : Int) == (ws.length : Int)) = true := by simp
        clear hlt
        go_wp2_with fail
        go_quiet (fail)
        go_wp2_with fail
        try simp only [Exit.inBlock, Exit.then]
        refine bodyPost_ret (results_tmp4 rfl _ _ _) rfl ?_
        exact ⟨by rw [HSC.out.2]; rfl, by rw [HSC.out.1]; exact HS.out _, HBE.out _⟩
      · have HSC : Hid (scanS m s r ws = (coinS m s z r, none) ∧ outM s r ws = (0, 0, false, false)) := Lib.hid ⟨by unfold scanS; rw [if_pos HF.out, HF.out, ← HZ.out, if_neg (by omega), Int.toNat_natCast], by unfold outM; rw [if_pos HF.out]⟩
        have d1 : ((z : Int) != (r : Int)) = true := by simp; omega
        have d2 : ((ws.length : Int) == (ws.length : Int)) = true := by simp
        clear hlt
        have HC2 := Lib.hid fun q => HCN.out q z r hz hr
        go_wp2_with fail
        go_quiet (fail)
        go_wp2_with (first
          | (go_at_call 105; (with_reducible refine (HC2.out _).mono ?_); rintro E w1 ⟨rfl, hs1, hb1⟩
             have HS1 := Lib.hid hs1
             have HB1 := Lib.hid hb1
             clear hs1 hb1))
        try simp only [Exit.inBlock, Exit.then]
        refine bodyPost_ret (results_tmp4 rfl _ _ _) rfl ?_
        exact ⟨by rw [HSC.out.2]; rfl, by rw [HSC.out.1]; exact HS1.out, (HBE.out _).trans HB1.out⟩
end Go.Proofs
namespace Go.Proofs
open Go.RowKit Go.Shelf Go.Proofs.Ct Go.Maps
def rowsIn (b : Nat) (w : World) : Nat := match w.cell? ⟨b, 2, none⟩ with
  | some (.slice _ n _) => n
  | _ => 0
theorem StP.rowsIn {base b m lim : Nat} {w : World} {s : St} (h : StP base b m lim w s) : rowsIn b w = s.t.length := by
  obtain ⟨-, P, vr, vp, vq, bl, cs, hB, hC⟩ := h
  obtain ⟨A, c, rfl⟩ := owns_form hC.out
  unfold Go.Proofs.rowsIn
  rw [hB.cells.2.2.1]
set_option maxRecDepth 100000 in
set_option maxHeartbeats 4000000 in
theorem fill125_any (g m base b lim r : Nat) (hm : m = 2 * g) (hg : g ≤ 16) (w : World) (s : St) (u : Value) (ws : W) (hR : Ct.Rest g s) (hS : StP base b m lim w s) (hbw : base ≤ w.heap.size) (hlim : lim ≤ 999999) (hn : s.t.length ≤ lim) (hu : ∀ W, Below base w W → IntsAt W u ws) (hl : LOk g ws) (hr : r < s.t.length) (hlr : s.rp r = r) :
    Calls Tryz.prog 62 #[.pointer (some ⟨b, 0, none⟩), .int .i64 (r : Int), u] w fun e w' => ((∃ s', fillS m lim s r ws = some s' ∧ e = .returned (.tuple #[]) ∧ StP base b m lim w' s') ∨ (fillS m lim s r ws = none ∧ e = .panicked fullP)) ∧ Below base w w' := by
  have HREL : Hid (StP base b m lim w s ∧ Ct.Rest g s ∧ s.t.length ≤ lim ∧ r < s.t.length ∧ s.rp r = r ∧ fillS m lim s r ws = fillS m lim s r ws) := Lib.hid ⟨hS, hR, hn, hr, hlr, rfl⟩
  generalize hfe : fillS m lim s r ws = F at *
  have HBW := Lib.hid hbw
  have HUU := Lib.hid hu
  have HL := Lib.hid hl
  have HM := Lib.hid hm
  clear hR hS hu hl hlr hn hr hbw
  have HF := Lib.hid hfe
  clear hfe
  go_enter Tryz.func62, Tryz.ntmps62
  go_wp2_with fail
  go_loopw [6] (fun f wr => ∃ s1 : St, Hid (StP base b m lim wr s1 ∧ Ct.Rest g s1 ∧ s1.t.length ≤ lim ∧ r < s1.t.length ∧ s1.rp r = r) ∧ Hid (fillS m lim s1 r ws = F) ∧ Hid (Below base w wr)) (fun _ wr => lim + 1 - rowsIn b wr)
  case atStart => exact ⟨s, Lib.hid ⟨HREL.out.1, HREL.out.2.1, HREL.out.2.2.1, HREL.out.2.2.2.1, HREL.out.2.2.2.2.1⟩, HF, Lib.hid (Below.refl _ _)⟩
  case round =>
    obtain ⟨s1, HI, HF1, HB⟩ := hrel
    clear HREL HF
    obtain ⟨h1, h2, h3, h4, h5⟩ := HI.out
    obtain ⟨k1, k2⟩ := scan_rest h2 h4 h5 HL.out
    rw [← HM.out] at k1 k2
    have hstep := fillS_step (m := m) (r := r) (w := ws) h3
    rw [HF1.out] at hstep
    have HSC := Lib.hid (scan147_any g m base b lim r HM.out hg wr s1 u ws h2 h1 (Nat.le_trans HBW.out HB.out.size) (by omega) (HUU.out wr HB.out) HL.out h4 h5)
    cases hsc : scanS m s1 r ws with
    | mk s2 o =>
      rw [hsc] at HSC hstep
      cases o with
      | none =>
        have HE : Hid (F = some s2) := Lib.hid hstep
        have HSC' : Hid (Calls Tryz.prog 87 #[.pointer (some ⟨b, 0, none⟩), .int .i64 (r : Int), u] wr fun e w' => e = .returned (.tuple #[.int .i64 0, .int .i64 0, .bool false]) ∧ StP base b m lim w' s2 ∧ Below base wr w') := Lib.hid HSC.out
        clear k1 k2 hstep HSC h1 h2 h3 h4 h5 hsc
        go_wp2_with (first
          | (go_at_call 87; (with_reducible refine HSC'.out.mono ?_); rintro E w1 ⟨rfl, hs1, hb1⟩
             have HS1 := Lib.hid hs1
             have HB1 := Lib.hid hb1
             clear hs1 hb1))
        refine bodyPost_ret (results_none rfl _ _ _) rfl ?_
        exact ⟨.inl ⟨s2, HE.out, rfl, HS1.out⟩, HB.out.trans HB1.out⟩
      | some fc =>
        obtain ⟨f, c⟩ := fc
        obtain ⟨rfl, j1, j2, j3, j4⟩ := k2 _ _ _ hsc
        have HSC' : Hid (Calls Tryz.prog 87 #[.pointer (some ⟨b, 0, none⟩), .int .i64 (r : Int), u] wr fun e w' => e = .returned (.tuple #[.int .i64 (f : Int), .int .i64 (c : Int), .bool true]) ∧ StP base b m lim w' s2 ∧ Below base wr w') := Lib.hid HSC.out
        have hcm : c < m := by rw [HM.out]; rw [← HM.out]; exact j2
        by_cases hfull : s2.t.length = lim
        · have HE : Hid (F = none) := Lib.hid (by rw [hstep]; exact if_pos hfull)
          have HD : Hid (∀ W, StP base b m lim W s2 → base ≤ W.heap.size → Calls Tryz.prog 65 #[.pointer (some ⟨b, 0, none⟩), .int .i64 (f : Int), .int .i64 (c : Int)] W fun e w' => e = .panicked fullP ∧ Below base W w') := Lib.hid fun W h hw => by
            subst hfull
            exact define128_full m base b f c W s2 h hw (by omega)
          clear k1 k2 hstep HSC h1 h2 h3 h4 h5 hsc j1 j2 j3 j4 hfull hcm
          go_wp2_with (first
            | (go_at_call 87; (with_reducible refine HSC'.out.mono ?_); rintro E w1 ⟨rfl, hs1, hb1⟩
               have HS1 := Lib.hid hs1
               have HB1 := Lib.hid (HB.out.trans hb1)
               clear hs1 hb1)
            | (go_at_call 65; (with_reducible refine (HD.out _ HS1.out (Nat.le_trans HBW.out HB1.out.size)).mono ?_); rintro E w2 ⟨rfl, hb2⟩
               have HB2 := Lib.hid (HB1.out.trans hb2)
               clear hb2))
          exact ⟨rfl, .inr ⟨HE.out, rfl⟩, HB2.out⟩
        · have HE : Hid (fillS m lim (defS m s2 f c) r ws = F) := Lib.hid (by rw [hstep]; exact (if_neg hfull).symm)
          have HD : Hid (∀ W, StP base b m lim W s2 → base ≤ W.heap.size → Calls Tryz.prog 65 #[.pointer (some ⟨b, 0, none⟩), .int .i64 (f : Int), .int .i64 (c : Int)] W fun e w' => e = .returned (.tuple #[]) ∧ StP base b m lim w' (defS m s2 f c) ∧ Below base W w') := Lib.hid fun W h hw =>
            define128_any g m base b lim f c HM.out hg W s2 h2 h hw (by omega) j1 hcm hfull
          have HN : Hid (Ct.Rest g (defS m s2 f c) ∧ (defS m s2 f c).t.length ≤ lim ∧ r < (defS m s2 f c).t.length ∧ (defS m s2 f c).rp r = r) := Lib.hid ⟨by
            have := (h2.defn (r := f) (c := c) j1 (by rw [← HM.out]; exact hcm) j3 j4).1
            rw [← HM.out] at this
            exact this, by rw [length_def]; omega, by rw [length_def]; omega, by rw [rp_def_old h2.inv m f c h4]; exact h5⟩
          have HRW : Hid (rowsIn b wr = s2.t.length) := Lib.hid h1.rowsIn
          have HLEN : Hid ((defS m s2 f c).t.length = s2.t.length + 1) := Lib.hid (length_def m f c)
          have HLT : Hid (s2.t.length ≤ lim) := Lib.hid h3
          clear k1 k2 hstep HSC h1 h2 h3 h4 h5 hsc j1 j2 j3 j4 hfull hcm HI
          generalize defS m s2 f c = s9 at *
          go_wp2_with (first
            | (go_at_call 87; (with_reducible refine HSC'.out.mono ?_); rintro E w1 ⟨rfl, hs1, hb1⟩
               have HS1 := Lib.hid hs1
               have HB1 := Lib.hid (HB.out.trans hb1)
               clear hs1 hb1)
            | (go_at_call 65; (with_reducible refine (HD.out _ HS1.out (Nat.le_trans HBW.out HB1.out.size)).mono ?_); rintro E w2 ⟨rfl, hs2, hb2⟩
               have HS2 := Lib.hid hs2
               have HB2 := Lib.hid (HB1.out.trans hb2)
               clear hs2 hb2))
          go_roundw
          case rel => exact ⟨s9, Lib.hid ⟨HS2.out, HN.out.1, HN.out.2.1, HN.out.2.2.1, HN.out.2.2.2⟩, HE, HB2⟩
          case measure =>
            show lim + 1 - rowsIn b w2 < lim + 1 - rowsIn b wr
            rw [HRW.out, HS2.out.rowsIn, HLEN.out]
            have := HLT.out
            omega
end Go.Proofs
namespace Go.Proofs.Ct
theorem fwd_pos0 {t : Tb} {r : Nat} {w : W} : 0 ≤ leadTo t r w (fwd t r w) := by
  have h := (fwd_spec t r w).2.2
  cases e : fwd t r w with
  | zero => exact Int.natCast_nonneg r
  | succ k => exact h k (by omega)
theorem outM_none {m r : Nat} {s s' : St} {w : W} (h : scanS m s r w = (s', none)) : ∃ a b d, outM s r w = (a, b, false, d) := by
  unfold scanS at h
  unfold outM
  split
  · exact ⟨_, _, _, rfl⟩
  · rename_i h1
    rw [if_neg h1] at h
    split
    · exact ⟨_, _, _, rfl⟩
    · rename_i h2
      rw [if_neg h2] at h
      split
      · exact ⟨_, _, _, rfl⟩
      · rename_i h3
        rw [if_neg h3] at h
        simp at h
theorem outM_some {m r f c : Nat} {s s' : St} {w : W} (h : scanS m s r w = (s', some (f, c))) : outM s r w = ((f : Int), (c : Int), true, false) := by
  unfold scanS at h
  unfold outM
  split at h
  · simp at h
  · rename_i h1
    rw [if_neg h1]
    split at h
    · simp at h
    · rename_i h2
      rw [if_neg h2]
      split at h
      · simp at h
      · rename_i h3
        rw [if_neg h3]
        have := fwd_pos0 (t := s.t) (r := r) (w := w)
        simp only [Prod.mk.injEq, Option.some.injEq] at h
        obtain ⟨-, h4, h5⟩ := h
        rw [← h4, ← h5]
        simp only [Prod.mk.injEq, and_true]
        omega
end Go.Proofs.Ct
namespace Go.Proofs
open Go.RowKit Go.Shelf Go.Proofs.Ct Go.Maps
set_option maxRecDepth 100000 in
set_option maxHeartbeats 4000000 in
theorem fill131_any (g m base b lim r : Nat) (hm : m = 2 * g) (hg : g ≤ 16) (hg1 : 1 ≤ g) (w : World) (s : St) (u : Value) (ws : W) (hR : Ct.Rest g s) (hS : StR base b lim w s) (hbw : base ≤ w.heap.size) (hlim : lim ≤ 999999) (hn : s.t.length ≤ lim) (hu : ∀ W, Below base w W → IntsAt W u ws) (hl : LOk g ws) (hr : r < s.t.length) (hlr : s.rp r = r) :
    Calls Tryz.prog 78 #[.pointer (some ⟨b, 0, none⟩), .int .i64 (r : Int), u] w fun e w' => ((∃ s', fillS m lim s r ws = some s' ∧ e = .returned (.bool true) ∧ StR base b lim w' s') ∨ (fillS m lim s r ws = none ∧ e = .returned (.bool false))) ∧ Kf base w w' := by
  have HREL : Hid (StR base b lim w s ∧ Ct.Rest g s ∧ s.t.length ≤ lim ∧ r < s.t.length ∧ s.rp r = r) := Lib.hid ⟨hS, hR, hn, hr, hlr⟩
  generalize hfe : fillS m lim s r ws = F at *
  have HBW := Lib.hid hbw
  have HUU := Lib.hid hu
  have HL := Lib.hid hl
  have HM := Lib.hid hm
  have HF := Lib.hid hfe
  clear hR hS hu hl hlr hn hr hbw hfe
  go_enter Tryz.func78, Tryz.ntmps78
  go_wp2_with fail
  go_loopg [7, 8, 9, 10] (lim + 1 - s.t.length) (fun n f c o d wr => ∃ s1 : St, n = lim + 1 - s1.t.length ∧ Hid (StR base b lim wr s1 ∧ Ct.Rest g s1 ∧ s1.t.length ≤ lim ∧ r < s1.t.length ∧ s1.rp r = r) ∧ Hid (fillS m lim s1 r ws = F) ∧ Hid (Kf base w wr))
  case atStart => exact ⟨s, rfl, HREL, HF, Lib.hid (Kf.refl _ _)⟩
  case round =>
    obtain ⟨s1, hgk, HI, HF1, HB⟩ := hrel
    have HGK := Lib.hid hgk
    clear HREL HF hgk
    obtain ⟨h1, h2, h3, h4, h5⟩ := HI.out
    obtain ⟨k1, k2⟩ := scan_rest h2 h4 h5 HL.out
    rw [← HM.out] at k1 k2
    have hstep := fillS_step (m := m) (r := r) (w := ws) h3
    rw [HF1.out] at hstep
    have HSC := Lib.hid (scan150_any g m base b lim r HM.out hg wr s1 u ws h2 h1 (Nat.le_trans HBW.out HB.out.size) (by omega) (HUU.out wr HB.out.1) HL.out h4 h5)
    cases hsc : scanS m s1 r ws with
    | mk s2 o =>
      rw [hsc] at HSC hstep
      cases o with
      | none =>
        have HE : Hid (F = some s2) := Lib.hid hstep
        obtain ⟨a, c, d, ho⟩ := outM_none hsc
        rw [ho] at HSC
        have HSC' : Hid (Calls Tryz.prog 95 #[.pointer (some ⟨b, 0, none⟩), .int .i64 (r : Int), u] wr fun e w' => e = .returned (.tuple #[.int .i64 a, .int .i64 c, .bool false, .bool d]) ∧ StR base b lim w' s2 ∧ Kf base wr w') := Lib.hid HSC.out
        clear k1 k2 hstep HSC h1 h2 h3 h4 h5 hsc ho
        go_wp2_with (first
          | (go_at_call 95; (with_reducible refine HSC'.out.mono ?_); rintro E w1 ⟨rfl, hs1, hb1⟩
             have HS1 := Lib.hid hs1
             have HB1 := Lib.hid hb1
             clear hs1 hb1))
        go_ret
        exact ⟨.inl ⟨s2, HE.out, rfl, HS1.out⟩, HB.out.trans HB1.out⟩
      | some fc =>
        obtain ⟨f, c⟩ := fc
        obtain ⟨rfl, j1, j2, j3, j4⟩ := k2 _ _ _ hsc
        rw [outM_some hsc] at HSC
        have HSC' : Hid (Calls Tryz.prog 95 #[.pointer (some ⟨b, 0, none⟩), .int .i64 (r : Int), u] wr fun e w' => e = .returned (.tuple #[.int .i64 (f : Int), .int .i64 (c : Int), .bool true, .bool false]) ∧ StR base b lim w' s2 ∧ Kf base wr w') := Lib.hid HSC.out
        have hcm : c < m := by rw [HM.out]; rw [← HM.out]; exact j2
        by_cases hfull : s2.t.length = lim
        · have HE : Hid (F = none) := Lib.hid (by rw [hstep]; exact if_pos hfull)
          have HD : Hid (∀ W, StR base b lim W s2 → base ≤ W.heap.size → Calls Tryz.prog 79 #[.pointer (some ⟨b, 0, none⟩), .int .i64 (f : Int), .int .i64 (c : Int)] W fun e w' => e = .returned (.bool false) ∧ Kf base W w') := Lib.hid fun W h hw => by
            subst hfull
            exact define132_full base b f c W s2 h hw (by omega)
          clear k1 k2 hstep HSC h1 h2 h3 h4 h5 hsc j1 j2 j3 j4 hfull hcm
          go_wp2_with (first
            | (go_at_call 95; (with_reducible refine HSC'.out.mono ?_); rintro E w1 ⟨rfl, hs1, hb1⟩
               have HS1 := Lib.hid hs1
               have HB1 := Lib.hid (HB.out.trans hb1)
               clear hs1 hb1)
            | (go_at_call 79; (with_reducible refine (HD.out _ HS1.out (Nat.le_trans HBW.out HB1.out.size)).mono ?_); rintro E w2 ⟨rfl, hb2⟩
               have HB2 := Lib.hid (HB1.out.trans hb2)
               clear hb2))
          go_ret
          exact ⟨.inr ⟨HE.out, rfl⟩, HB2.out⟩
        · have HE : Hid (fillS m lim (defS m s2 f c) r ws = F) := Lib.hid (by rw [hstep]; exact (if_neg hfull).symm)
          have HD : Hid (∀ W, StR base b lim W s2 → base ≤ W.heap.size → Calls Tryz.prog 79 #[.pointer (some ⟨b, 0, none⟩), .int .i64 (f : Int), .int .i64 (c : Int)] W fun e w' => e = .returned (.bool true) ∧ StR base b lim w' (defS m s2 f c) ∧ Kf base W w') := Lib.hid fun W h hw =>
            define132_any g m base b lim f c HM.out hg hg1 W s2 h2 h hw (by omega) j1 hcm (by omega)
          have HN : Hid (Ct.Rest g (defS m s2 f c) ∧ (defS m s2 f c).t.length ≤ lim ∧ r < (defS m s2 f c).t.length ∧ (defS m s2 f c).rp r = r) := Lib.hid ⟨by
            have := (h2.defn (r := f) (c := c) j1 (by rw [← HM.out]; exact hcm) j3 j4).1
            rw [← HM.out] at this
            exact this, by rw [length_def]; omega, by rw [length_def]; omega, by rw [rp_def_old h2.inv m f c h4]; exact h5⟩
          have HLEN : Hid ((defS m s2 f c).t.length = s2.t.length + 1) := Lib.hid (length_def m f c)
          have HLT : Hid (s2.t.length ≤ lim) := Lib.hid h3
          clear k1 k2 hstep HSC h1 h2 h3 h4 h5 hsc j1 j2 j3 j4 hfull hcm HI
          generalize defS m s2 f c = s9 at *
          go_wp2_with (first
            | (go_at_call 95; (with_reducible refine HSC'.out.mono ?_); rintro E w1 ⟨rfl, hs1, hb1⟩
               have HS1 := Lib.hid hs1
               have HB1 := Lib.hid (HB.out.trans hb1)
               clear hs1 hb1)
            | (go_at_call 79; (with_reducible refine (HD.out _ HS1.out (Nat.le_trans HBW.out HB1.out.size)).mono ?_); rintro E w2 ⟨rfl, hs2, hb2⟩
               have HS2 := Lib.hid hs2
               have HB2 := Lib.hid (HB1.out.trans hb2)
               clear hs2 hb2))
          go_roundg (lim + 1 - s9.t.length)
          case measure => have := HGK.out; have := HLEN.out; have := HLT.out; omega
          case rel => exact ⟨s9, rfl, Lib.hid ⟨HS2.out, HN.out.1, HN.out.2.1, HN.out.2.2.1, HN.out.2.2.2⟩, HE, HB2⟩
end Go.Proofs
namespace Go.Proofs
open Go.RowKit Go.Shelf Go.Proofs.Ct Go.Maps
namespace Ct
theorem opt_stop {α : Type} {f : Nat → α → Option α} {s s' : α} {k : Nat} (h : optTo f k s = some s') (hf : ∀ i, k ≤ i → f i s' = some s') : ∀ n, k ≤ n → optTo f n s = some s'
  | 0, hn => by rw [show k = 0 by omega] at h; exact h
  | n + 1, hn => by
    by_cases e : k = n + 1
    · rw [← e]; exact h
    · rw [optTo_succ, opt_stop h hf n (by omega)]; exact hf n (by omega)
theorem relS_dead {m lim : Nat} {rels : List W} {r i : Nat} {s : St} (h : s.rp r ≠ r) : relS m lim rels r i s = some s := if_neg h
theorem colS_dead {m lim r c : Nat} {s : St} (h : s.rp r ≠ r) : colS m lim r c s = some s := if_neg fun h' => h h'.1
theorem rowsS_stop {m lim : Nat} {rels : List W} {r : Nat} {s : St} (h : s.t.length ≤ r) : rowsS m lim rels r s = some s := if_neg (by omega)
end Ct
theorem StP.rows {base b m lim : Nat} {w : World} {s : St} (h : StP base b m lim w s) : ∃ A c, w.cell? ⟨b, 2, none⟩ = some (.slice A s.t.length c) := by
  obtain ⟨-, P, vr, vp, vq, bl, cs, hB, hC⟩ := h
  obtain ⟨A, c, rfl⟩ := owns_form hC.out
  exact ⟨A, c, hB.cells.2.2.1⟩
def Words (base : Nat) (w : World) (v : Value) (l : List W) : Prop := ∃ w0, w0.heap.size = base ∧ Tab w0 v l ∧ Below base w0 w
theorem Words.tab {base : Nat} {w : World} {v : Value} {l : List W} (h : Words base w v l) {W : World} (hb : Below base w W) : Tab W v l := by
  obtain ⟨w0, rfl, ht, h0⟩ := h
  exact kept_tab.below ht (h0.trans hb)
theorem Words.at_ {base : Nat} {w : World} {v : Value} {l : List W} (h : Words base w v l) {k : Nat} (hk : k < l.length) : ∃ b o c u, v = .slice (some ⟨b, o, none⟩) l.length c ∧ ∀ W, Below base w W → W.cell? ⟨b, o + k, none⟩ = some u ∧ IntsAt W u (l.getD k []) := by
  obtain ⟨w0, rfl, ht, h0⟩ := h
  obtain ⟨A, c, rfl, -, -, h3⟩ := ht.open_
  obtain ⟨b, o, rfl, h4⟩ := h3 (by omega)
  obtain ⟨u, hu, hI⟩ := h4 k hk
  exact ⟨b, o, c, u, rfl, fun W hW => ⟨((h0.trans hW).cell (p := ⟨b, o + k, none⟩) (World.block_lt_of_cell? w0 _ hu)).trans hu, kept_ints.below hI (h0.trans hW)⟩⟩
set_option maxRecDepth 100000 in
set_option maxHeartbeats 4000000 in
theorem run85_any (g m base b lim : Nat) (hm : m = 2 * g) (hg : g ≤ 16) (w : World) (vr vs : Value) (rels sub : List W) (hS : StP base b m lim w nilS) (hbw : base ≤ w.heap.size) (hlim : lim ≤ 999999) (h1 : 1 ≤ lim) (hr : Words base w vr rels) (hs : Words base w vs sub) (hlr : ∀ j, LOk g (rels.getD j [])) (hls : ∀ j, LOk g (sub.getD j [])) :
    Calls Tryz.prog 36 #[.pointer (some ⟨b, 0, none⟩), vr, vs] w fun e w' => ((∃ s', runS m lim rels sub = some s' ∧ e = .returned (.tuple #[]) ∧ StP base b m lim w' s') ∨ (runS m lim rels sub = none ∧ e = .panicked fullP)) ∧ Below base w w' := by
  have HA : Hid (Calls Tryz.prog 63 #[.pointer (some ⟨b, 0, none⟩)] w fun e w' => e = .returned (.int .i64 0) ∧ StP base b m lim w' (startS m) ∧ Below base w w') := Lib.hid (add126_any g m base b lim (by omega) w nilS (by
    refine ⟨?_, ?_, rfl, ?_, ?_, ?_⟩ <;> intro x hx <;> exact absurd hx (Nat.not_lt_zero _)) hS hbw (by decide) (by decide) (by decide) (by show 0 ≠ lim; omega))
  have HBW := Lib.hid hbw
  obtain ⟨Ar, cr, rfl, hra, hrc, -⟩ := (hr.tab (Below.refl _ _)).open_
  obtain ⟨As, cs, rfl, hsa, hsc, -⟩ := (hs.tab (Below.refl _ _)).open_
  clear hS hbw
  have HG0 : Hid (Ct.Good g lim (startS m)) := Lib.hid (by rw [hm]; exact start_good h1)
  have HFQ : Hid (runS m lim rels sub = (optTo (subS m lim sub) sub.length (startS m)).bind (optTo (rowsS m lim rels) lim)) := Lib.hid rfl
  generalize runS m lim rels sub = F at *
  have hsb : (0 : Int) ≤ (sub.length : Int) := Int.natCast_nonneg _
  have hsb2 : (sub.length : Int) ≤ 9223372036854775807 := by omega
  have HRW := Lib.hid hr
  have HSW := Lib.hid hs
  clear hr hs
  go_enter Tryz.func36, Tryz.ntmps36
  go_wp2_with (first
    | (go_at_call 63; (with_reducible refine HA.out.mono ?_); rintro E w1 ⟨rfl, hs1, hb1⟩
       have HS1 := Lib.hid hs1
       have HB1 := Lib.hid hb1
       clear hs1 hb1))
  go_loopw [19] (fun i wr => ∃ (k : Nat) (s1 : St), i = .int .i64 (k : Int) ∧ k ≤ sub.length ∧ Hid (optTo (subS m lim sub) k (startS m) = some s1 ∧ Ct.Good g lim s1 ∧ StP base b m lim wr s1) ∧ Hid (Below base w wr)) (fun i _ => sub.length - (intOf i).toNat)
  case atStart => exact ⟨0, startS m, rfl, Nat.zero_le _, Lib.hid ⟨rfl, HG0.out, HS1.out⟩, HB1⟩
  case round =>
    clear HA HS1 HB1 HG0
    obtain ⟨k, s1, rfl, hk, HI, HB⟩ := hrel
    have hk0 : (0 : Int) ≤ (k : Int) := Int.natCast_nonneg _
    by_cases hlt : k < sub.length
    · have hltI : (k : Int) < (sub.length : Int) := by omega
      obtain ⟨bs, os, c', u, e, hcell⟩ := HSW.out.at_ hlt
      injection e with e1 e2 e3
      subst e1 e3
      have hck := (hcell wr HB.out).1
      have hgd := HI.out.2.1
      have HFI : Hid (Calls Tryz.prog 62 #[.pointer (some ⟨b, 0, none⟩), .int .i64 0, u] wr fun e w' => ((∃ s', fillS m lim s1 0 (sub.getD k []) = some s' ∧ e = .returned (.tuple #[]) ∧ StP base b m lim w' s') ∨ (fillS m lim s1 0 (sub.getD k []) = none ∧ e = .panicked fullP)) ∧ Below base wr w') := Lib.hid (fill125_any g m base b lim 0 hm hg wr s1 u (sub.getD k []) hgd.rest HI.out.2.2 (Nat.le_trans HBW.out HB.out.size) hlim hgd.n2 (fun W h => (hcell W (HB.out.trans h)).2) (hls k) (by have := hgd.n1; omega) (Ct.rp_zero hgd.rest (by have := hgd.n1; omega)))
      have HOP : Hid (optTo (subS m lim sub) (k + 1) (startS m) = fillS m lim s1 0 (sub.getD k [])) := Lib.hid (by rw [optTo_succ, HI.out.1]; rfl)
      clear hcell hgd
      generalize hfs : fillS m lim s1 0 (sub.getD k []) = fs at *
      have HFS := Lib.hid hfs
      clear hfs
      cases fs with
      | none =>
        have HE : Hid (F = none) := Lib.hid (by rw [HFQ.out, optTo_none HOP.out sub.length (by omega)]; rfl)
        have HFI' := Lib.hid (HFI.out.mono (R' := fun E w2 => E = .panicked fullP ∧ Below base wr w2) fun E w2 ⟨h, hb⟩ => ⟨by
          rcases h with ⟨s', e, -⟩ | ⟨-, h⟩
          · cases e
          · exact h, hb⟩)
        clear HFI
        go_wp2_with (first
          | (go_at_call 62; (with_reducible refine HFI'.out.mono ?_); rintro E w2 ⟨rfl, hb2⟩
             have HB2 := Lib.hid (HB.out.trans hb2)
             clear hb2))
        exact ⟨rfl, .inr ⟨HE.out, rfl⟩, HB2.out⟩
      | some s2 =>
        have HG2 : Hid (Ct.Good g lim s2) := Lib.hid (by
          have := HFS.out
          rw [hm] at this
          exact (fill_good HI.out.2.1 (by have := HI.out.2.1.n1; omega) (Ct.rp_zero HI.out.2.1.rest (by have := HI.out.2.1.n1; omega)) (hls k) this).1)
        have HFI' := Lib.hid (HFI.out.mono (R' := fun E w' => E = .returned (.tuple #[]) ∧ StP base b m lim w' s2 ∧ Below base wr w') fun E w2 ⟨h, hb⟩ => by
          rcases h with ⟨s', e, h1, h2⟩ | ⟨e, -⟩
          · cases e
            exact ⟨h1, h2, hb⟩
          · cases e)
        clear HFI
        go_wp2_with (first
          | (go_at_call 62; (with_reducible refine HFI'.out.mono ?_); rintro E w2 ⟨rfl, hs2, hb2⟩
             have HB2 := Lib.hid (HB.out.trans hb2)
             have HS2 := Lib.hid hs2
             clear hb2 hs2))
        go_roundw
        case rel => exact ⟨k + 1, s2, by go_num, by omega, Lib.hid ⟨HOP.out, HG2.out, HS2.out⟩, HB2⟩
        case measure => simp [intOf]; omega
    · obtain rfl : k = sub.length := by omega
      have HFR : Hid (F = optTo (rowsS m lim rels) lim s1) := Lib.hid (by rw [HFQ.out, HI.out.1]; rfl)
      clear hlt
      go_wp2_with fail
      go_loopg [9] (lim + 1) (fun n i wr => ∃ (k : Nat) (s2 : St), i = .int .i64 (k : Int) ∧ n = lim + 1 - k ∧ k ≤ s2.t.length ∧ Hid (optTo (rowsS m lim rels) k s1 = some s2 ∧ Ct.Good g lim s2 ∧ StP base b m lim wr s2) ∧ Hid (Below base w wr))
      case atStart => exact ⟨0, s1, rfl, by omega, Nat.zero_le _, Lib.hid ⟨rfl, HI.out.2.1, HI.out.2.2⟩, HB⟩
      case round =>
        clear HI HB
        obtain ⟨k, s2, rfl, hgk, hk2, HI, HB⟩ := hrel
        have hk0 : (0 : Int) ≤ (k : Int) := Int.natCast_nonneg _
        obtain ⟨A2, c2, hc2⟩ := HI.out.2.2.rows
        have hn2 : s2.t.length ≤ lim := HI.out.2.1.n2
        have HGK := Lib.hid hgk
        clear hgk
        by_cases hlt : k < s2.t.length
        · have HKL := Lib.hid hlt
          have hltI : (k : Int) < (s2.t.length : Int) := by omega
          clear hlt
          go_upto_block 4 with fail
          go_cut [] from 38 to 50 (fun wx => ∃ s3, Hid (optTo (relS m lim rels k) rels.length s2 = some s3 ∧ StP base b m lim wx s3) ∧ Hid (Below base w wx))
          case first =>
            go_wp2_with fail
            have hrb : (0 : Int) ≤ (rels.length : Int) := Int.natCast_nonneg _
            have hrb2 : (rels.length : Int) ≤ 9223372036854775807 := by omega
            go_loopg [38] rels.length (fun n i wx => ∃ (j : Nat) (s3 : St), i = .int .i64 (j : Int) ∧ n = rels.length - j ∧ j ≤ rels.length ∧ Hid (optTo (relS m lim rels k) j s2 = some s3 ∧ StP base b m lim wx s3) ∧ Hid (Below base w wx))
            case atStart => exact ⟨0, s2, rfl, by omega, Nat.zero_le _, Lib.hid ⟨rfl, HI.out.2.2⟩, HB⟩
            case round =>
              obtain ⟨j, s3, rfl, hgj, hj, HI3, HB3⟩ := hrel
              have hj0 : (0 : Int) ≤ (j : Int) := Int.natCast_nonneg _
              have HGJ := Lib.hid hgj
              clear hgj
              have HG3 : Hid (Ct.Good g lim s3 ∧ Ext g s2 s3) := Lib.hid (by
                have := HI3.out.1
                rw [hm] at this
                exact rel_good (fun j _ => hlr j) HI.out.2.1 HKL.out this)
              have hk3 : k < s3.t.length := Nat.lt_of_lt_of_le HKL.out HG3.out.2.n
              by_cases hjl : j < rels.length
              · have hjlI : (j : Int) < (rels.length : Int) := by omega
                obtain ⟨bs, os, c', u, e, hcell⟩ := HRW.out.at_ hjl
                injection e with e1 e2 e3
                subst e1 e3
                have hck := (hcell _ HB3.out).1
                have HAL := Lib.hid (alive127_any g base b m lim k _ s3 HI3.out.2 hk3)
                by_cases hal : s3.rp k = k
                · have HAT : Hid (decide (s3.rp k = k) = true) := Lib.hid (by simp [hal])
                  have HFI := Lib.hid (fun W (h : StP base b m lim W s3) (hb : Below base w W) => fill125_any g m base b lim k hm hg W s3 u (rels.getD j []) HG3.out.1.rest h (Nat.le_trans HBW.out hb.size) hlim HG3.out.1.n2 (fun W' h' => (hcell W' (hb.trans h')).2) (hlr j) hk3 hal)
                  have HOP : Hid (optTo (relS m lim rels k) (j + 1) s2 = fillS m lim s3 k (rels.getD j [])) := Lib.hid (by
                    rw [optTo_succ, HI3.out.1]
                    exact if_pos hal)
                  clear hcell hal
                  generalize hfs : fillS m lim s3 k (rels.getD j []) = fs at *
                  have HFS := Lib.hid hfs
                  clear hfs
                  cases fs with
                  | none =>
                    have HE : Hid (F = none) := Lib.hid (by
                      rw [HFR.out]
                      refine optTo_none (k := k + 1) ?_ lim (by have := HKL.out; omega)
                      rw [optTo_succ, HI.out.1]
                      show rowsS m lim rels k s2 = none
                      unfold rowsS rowS
                      rw [if_pos HKL.out, optTo_none HOP.out rels.length (by omega)]
                      rfl)
                    have HFI' := Lib.hid (fun W h hb => (HFI.out W h hb).mono (R' := fun E w2 => E = .panicked fullP ∧ Below base W w2) fun E w2 ⟨h, hb⟩ => ⟨by
                      rcases h with ⟨s', e, -⟩ | ⟨-, h⟩
                      · cases e
                      · exact h, hb⟩)
                    clear HFI
                    go_wp2_with (first
                      | (go_at_call 64; (with_reducible refine HAL.out.mono ?_); rintro E w2 ⟨rfl, rfl⟩; rw [HAT.out])
                      | (go_at_call 62; (with_reducible refine (HFI'.out _ HI3.out.2 HB3.out).mono ?_); rintro E w2 ⟨rfl, hb2⟩
                         have HB2 := Lib.hid (HB3.out.trans hb2)
                         clear hb2))
                    exact ⟨rfl, .inr ⟨HE.out, rfl⟩, HB2.out⟩
                  | some s4 =>
                    have HFI' := Lib.hid (fun W h hb => (HFI.out W h hb).mono (R' := fun E w' => E = .returned (.tuple #[]) ∧ StP base b m lim w' s4 ∧ Below base W w') fun E w2 ⟨h, hb⟩ => by
                      rcases h with ⟨s', e, h1, h2⟩ | ⟨e, -⟩
                      · cases e
                        exact ⟨h1, h2, hb⟩
                      · cases e)
                    clear HFI
                    go_wp2_with (first
                      | (go_at_call 64; (with_reducible refine HAL.out.mono ?_); rintro E w2 ⟨rfl, rfl⟩; rw [HAT.out])
                      | (go_at_call 62; (with_reducible refine (HFI'.out _ HI3.out.2 HB3.out).mono ?_); rintro E w2 ⟨rfl, hs2, hb2⟩
                         have HB2 := Lib.hid (HB3.out.trans hb2)
                         have HS2 := Lib.hid hs2
                         clear hb2 hs2))
                    go_roundg (rels.length - (j + 1))
                    case measure => have := HGJ.out; omega
                    case rel => exact ⟨j + 1, s4, by go_num, rfl, by omega, Lib.hid ⟨HOP.out, HS2.out⟩, HB2⟩
                · have HAT : Hid (decide (s3.rp k = k) = false) := Lib.hid (by simp [hal])
                  have HOP : Hid (optTo (relS m lim rels k) rels.length s2 = some s3) := Lib.hid (opt_stop HI3.out.1 (fun i _ => relS_dead hal) _ hj)
                  clear hcell hal
                  go_wp2_with (first
                    | (go_at_call 64; (with_reducible refine HAL.out.mono ?_); rintro E w2 ⟨rfl, rfl⟩; rw [HAT.out]))
                  go_meet
                  case rel => exact ⟨s3, Lib.hid ⟨HOP.out, HI3.out.2⟩, HB3⟩
              · obtain rfl : j = rels.length := by omega
                clear hjl
                go_wp2_with fail
                go_meet
                case rel => exact ⟨s3, HI3, HB3⟩
          case rest =>
            clear hc2
            obtain ⟨s3, HI3, HB3⟩ := hcut
            have HG3 : Hid (Ct.Good g lim s3 ∧ Ext g s2 s3) := Lib.hid (by
              have := HI3.out.1
              rw [hm] at this
              exact rel_good (fun j _ => hlr j) HI.out.2.1 HKL.out this)
            have hk3 : k < s3.t.length := Nat.lt_of_lt_of_le HKL.out HG3.out.2.n
            have HM := Lib.hid hm
            go_wp2_with fail
            go_loopg [12] m (fun n i wx => ∃ (c : Nat) (s4 : St), i = .int .i64 (c : Int) ∧ n = m - c ∧ c ≤ m ∧ Hid (optTo (colS m lim k) c s3 = some s4 ∧ StP base b m lim wx s4) ∧ Hid (Below base w wx))
            case atStart => exact ⟨0, s3, rfl, by omega, Nat.zero_le _, Lib.hid ⟨rfl, HI3.out.2⟩, HB3⟩
            case round =>
              obtain ⟨c, s4, rfl, hgc, hc, HI4, HB4⟩ := hrel
              have HGC := Lib.hid hgc
              clear hgc
              have hc0 : (0 : Int) ≤ (c : Int) := Int.natCast_nonneg _
              have HG4 : Hid (Ct.Good g lim s4 ∧ Ext g s3 s4) := Lib.hid (by
                have := HI4.out.1
                rw [HM.out] at this
                obtain ⟨a1, a2, -⟩ := col_good HG3.out.1 hk3 (by omega) this
                exact ⟨a1, a2⟩)
              have hk4 : k < s4.t.length := Nat.lt_of_lt_of_le hk3 HG4.out.2.n
              have hk4I : (k : Int) < (s4.t.length : Int) := by omega
              obtain ⟨hw0, -⟩ := HI4.out.2.width
              have HAL := Lib.hid (alive127_any g base b m lim k _ s4 HI4.out.2 hk4)
              have HEND : Hid (optTo (colS m lim k) m s3 = some s4 → optTo (rowsS m lim rels) (k + 1) s1 = some s4) := Lib.hid (fun h => by
                rw [optTo_succ, HI.out.1]
                show rowsS m lim rels k s2 = some s4
                unfold rowsS rowS
                rw [if_pos HKL.out, HI3.out.1]
                exact h)
              have HGE : Hid (k + 1 ≤ s4.t.length) := Lib.hid (by omega)
              by_cases hcm : c < m
              · have hcmI : (c : Int) < (m : Int) := by omega
                by_cases hal : s4.rp k = k
                · have HAT : Hid (decide (s4.rp k = k) = true) := Lib.hid (by simp [hal])
                  have HAH := Lib.hid hal
                  clear hal
                  obtain ⟨gr, cr4, br, kr, a1, a2, a3⟩ := HI4.out.2.at_ HG4.out.1.rest.inv hk4 (c := c) (by rw [← HM.out]; exact hcm)
                  rw [← HM.out] at a2
                  by_cases hneg : s4.t.at k c < 0
                  · by_cases hfull : s4.t.length = lim
                    · have HE : Hid (F = none) := Lib.hid (by
                        rw [HFR.out]
                        refine optTo_none (k := k + 1) ?_ lim (by have := HKL.out; omega)
                        rw [optTo_succ, HI.out.1]
                        show rowsS m lim rels k s2 = none
                        unfold rowsS rowS
                        rw [if_pos HKL.out, HI3.out.1]
                        refine optTo_none (k := c + 1) ?_ m (by omega)
                        rw [optTo_succ, HI4.out.1]
                        show colS m lim k c s4 = none
                        unfold colS
                        rw [if_pos ⟨HAH.out, hneg⟩, if_pos hfull])
                      have HD : Hid (∀ W, StP base b m lim W s4 → base ≤ W.heap.size → Calls Tryz.prog 65 #[.pointer (some ⟨b, 0, none⟩), .int .i64 (k : Int), .int .i64 (c : Int)] W fun e w' => e = .panicked fullP ∧ Below base W w') := Lib.hid fun W h hw => by
                        subst hfull
                        exact define128_full m base b k c W s4 h hw (by omega)
                      have HNG := Lib.hid hneg
                      have hd5 : decide (s4.t.at k c < 0) = true := decide_eq_true hneg
                      clear hfull
                      go_wp2_with (first
                        | (go_at_call 64; (with_reducible refine HAL.out.mono ?_); rintro E w2 ⟨rfl, rfl⟩; rw [HAT.out])
                        | (go_at_call 65; (with_reducible refine (HD.out _ HI4.out.2 (Nat.le_trans HBW.out HB4.out.size)).mono ?_); rintro E w2 ⟨rfl, hb2⟩
                           have HB2 := Lib.hid (HB4.out.trans hb2)
                           clear hb2))
                      exact ⟨rfl, .inr ⟨HE.out, rfl⟩, HB2.out⟩
                    · have HOP : Hid (optTo (colS m lim k) (c + 1) s3 = some (defS m s4 k c)) := Lib.hid (by
                        rw [optTo_succ, HI4.out.1]
                        show colS m lim k c s4 = _
                        unfold colS
                        rw [if_pos ⟨HAH.out, hneg⟩, if_neg hfull])
                      have HD : Hid (∀ W, StP base b m lim W s4 → base ≤ W.heap.size → Calls Tryz.prog 65 #[.pointer (some ⟨b, 0, none⟩), .int .i64 (k : Int), .int .i64 (c : Int)] W fun e w' => e = .returned (.tuple #[]) ∧ StP base b m lim w' (defS m s4 k c) ∧ Below base W w') := Lib.hid fun W h hw => by
                        exact define128_any g m base b lim k c HM.out hg W s4 HG4.out.1.rest h hw (by have := HG4.out.1.n2; omega) hk4 hcm hfull
                      clear hfull
                      go_wp2_with (first
                        | (go_at_call 64; (with_reducible refine HAL.out.mono ?_); rintro E w2 ⟨rfl, rfl⟩; rw [HAT.out])
                        | (go_at_call 65; (with_reducible refine (HD.out _ HI4.out.2 (Nat.le_trans HBW.out HB4.out.size)).mono ?_); rintro E w2 ⟨rfl, hs2, hb2⟩
                           have HS2 := Lib.hid hs2
                           have HB2 := Lib.hid (HB4.out.trans hb2)
                           clear hs2 hb2))
                      go_roundg (m - (c + 1))
                      case measure => have := HGC.out; omega
                      case rel => exact ⟨c + 1, _, by go_num, rfl, by omega, Lib.hid ⟨HOP.out, HS2.out⟩, HB2⟩
                  · have HOP : Hid (optTo (colS m lim k) (c + 1) s3 = some s4) := Lib.hid (by
                      rw [optTo_succ, HI4.out.1]
                      show colS m lim k c s4 = _
                      unfold colS
                      rw [if_neg fun h' => hneg h'.2])
                    go_wp2_with (first
                      | (go_at_call 64; (with_reducible refine HAL.out.mono ?_); rintro E w2 ⟨rfl, rfl⟩; rw [HAT.out]))
                    go_roundg (m - (c + 1))
                    case measure => have := HGC.out; omega
                    case rel => exact ⟨c + 1, s4, by go_num, rfl, by omega, Lib.hid ⟨HOP.out, HI4.out.2⟩, HB4⟩
                · have HAT : Hid (decide (s4.rp k = k) = false) := Lib.hid (by simp [hal])
                  have HFIN : Hid (optTo (rowsS m lim rels) (k + 1) s1 = some s4) := Lib.hid (HEND.out (opt_stop HI4.out.1 (fun i _ => colS_dead hal) _ hc))
                  clear hal
                  go_wp2_with (first
                    | (go_at_call 64; (with_reducible refine HAL.out.mono ?_); rintro E w2 ⟨rfl, rfl⟩; rw [HAT.out]))
                  go_roundg (lim + 1 - (k + 1))
                  case measure => have := HGK.out; have := HKL.out; omega
                  case rel => exact ⟨k + 1, s4, by go_num, rfl, HGE.out, Lib.hid ⟨HFIN.out, HG4.out.1, HI4.out.2⟩, HB4⟩
              · obtain rfl : c = m := by omega
                have HFIN : Hid (optTo (rowsS c lim rels) (k + 1) s1 = some s4) := Lib.hid (HEND.out HI4.out.1)
                clear hcm
                go_wp2_with fail
                go_roundg (lim + 1 - (k + 1))
                case measure => have := HGK.out; have := HKL.out; omega
                case rel => exact ⟨k + 1, s4, by go_num, rfl, HGE.out, Lib.hid ⟨HFIN.out, HG4.out.1, HI4.out.2⟩, HB4⟩
        · have HE : Hid (F = some s2) := Lib.hid (by
            rw [HFR.out]
            exact opt_stop HI.out.1 (fun i hi => rowsS_stop (by omega)) lim (by omega))
          clear hn2
          go_wp2_with fail
          go_end0
          exact ⟨.inl ⟨s2, HE.out, rfl, HI.out.2.2⟩, HB.out⟩
end Go.Proofs
