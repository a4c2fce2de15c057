/- The reference's Define; (*coset.state).scan; The reference's Scan; (*coset.state).fill; The reference's Fill; (*coset.state).run; The reference's run; (*coset.state).table; (*coset.state).table: the walk; The reference's Result; coset.Enumerate: its results' cells, and the closure that it defers; coset.Enumerate: what it answers, and how its results are read. -/
import Derived.Test.YtmpnengjboabcaaFlCS8
import Derived.Deep.CutBlock
import Derived.Deep.LoopGhost
import Derived.Defers
import Derived.Recover
import Derived.Test.YtmpnengjboabcaaFlCS6
namespace Go.Proofs
open Go.RowKit Go.Shelf Go.Proofs.Ct Go.Maps
theorem StR.tops {base b lim : Nat} {w : World} {s : St} (h : StR base b lim w s) : ∃ A c, w.cell? ⟨b, 0, none⟩ = some (.slice A s.t.length c) ∧ w.cell? ⟨b, 3, none⟩ = some (.int .i64 (lim : Int)) ∧ w.cell? ⟨b, 5, none⟩ = some (.int .i64 s.most) := by
  obtain ⟨-, P, vr, vp, vq, bl, cs, f, hB, hC⟩ := h
  obtain ⟨A, c, rfl⟩ := owns_form hC.out
  exact ⟨A, c, hB.cells.1, hB.cells.2.2.2.1, hB.cells.2.2.2.2.2.1⟩
set_option maxRecDepth 100000 in
set_option maxHeartbeats 4000000 in
theorem define132_any (g m base b lim r c : Nat) (hm : m = 2 * g) (hg : g ≤ 16) (hg1 : 1 ≤ g) (w : World) (s : St) (hR : Ct.Rest g s) (hS : StR base b lim w s) (hbw : base ≤ w.heap.size) (hn : s.t.length + 1 ≤ 1000000) (hr : r < s.t.length) (hc : c < m) (hne : s.t.length < lim) :
    Calls Try.prog 178 #[.pointer (some ⟨b, 0, none⟩), .int .i64 (r : Int), .int .i64 (c : Int)] w fun e w' => e = .returned (.bool true) ∧ StR base b lim w' (defS m s r c) ∧ Kf base w w' := by
  have hlv : -1000000 ≤ s.live ∧ s.live ≤ 1000000 := by
    have h1 := hR.lv
    have h2 := dc_le s
    omega
  have HA : Hid (∀ W, Below w.heap.size w W → Calls Try.prog 176 #[.pointer (some ⟨b, 0, none⟩), .int .i64 (m : Int)] W fun e w' => e = .returned (.tuple #[]) ∧ StR base b lim w' (addS m s) ∧ Kf base W w') := Lib.hid fun W hW => add130_any g m base b lim (by omega) (by omega) W s hR.inv (hS.below hW) (Nat.le_trans hbw hW.size) (by omega) hlv.1 hlv.2
  obtain ⟨A, c0, -, c2, -⟩ := hS.tops
  obtain ⟨gr, cr, bl, cs, c1, hv1, -⟩ := hS.view hR.inv.len (by omega)
  have c3 := hv1 r hr
  rw [← hm] at c3
  generalize bl r = br at *
  generalize cs r = kr at *
  have hI2 : Inv g (addS m s) := by rw [hm]; exact hR.add.inv
  have HI2 := Lib.hid hI2
  have hlen : (addS m s).t.length = s.t.length + 1 := length_add m
  have hn0 : (s.t.length : Int) ≤ 1000000 := by omega
  have hnl : (s.t.length : Int) < (lim : Int) := by omega
  have hnn : (0 : Int) ≤ (s.t.length : Int) := Int.natCast_nonneg _
  have hr0 : (0 : Int) ≤ (r : Int) := Int.natCast_nonneg _
  have hr1 : (r : Int) < (s.t.length : Int) := by omega
  have hcc0 : (0 : Int) ≤ (c : Int) := Int.natCast_nonneg _
  have hcc1 : (c : Int) < (m : Int) := by omega
  have HM := Lib.hid hm
  have HBW := Lib.hid hbw
  have HB0 : Hid (∀ q, Below w.heap.size w (w.drewN q)) := Lib.hid fun q => below_drewN (Below.refl _ _) q
  have HN := Lib.hid hlen
  have hfe := flp_eq c (by omega)
  have hfg : flp c < 2 * g := flp_lt2 (by omega)
  have hf0 : (0 : Int) ≤ ((flp c : Nat) : Int) := Int.natCast_nonneg _
  have hf1 : ((flp c : Nat) : Int) < (m : Int) := by omega
  have hmI : (m : Int) ≤ 32 := by omega
  clear hS hR hbw hv1 hI2 hlen hlv hm
  go_enter Try.func178, Try.ntmps178
  go_wp2_with fail
  go_quiet (fail)
  go_upto_region 6 with (first
    | (go_at_call 176; (with_reducible refine (HA.out _ (HB0.out _)).mono ?_); rintro E w1 ⟨rfl, hs1, hb1⟩
       have HS1 := Lib.hid hs1
       have HB1 := Lib.hid (((Kf.refl base w).drewN _).trans hb1)
       clear hs1 hb1))
  clear c1 c2 c3
  obtain ⟨gr1, cr1, bl1, cs1, p1, hv1, hv2⟩ := HS1.out.view HI2.out.len (by rw [HN.out]; omega)
  have p2 := hv1 r (by rw [HN.out]; omega)
  obtain ⟨p3, p4, p5⟩ := hv2 r c (by rw [HN.out]; omega) (by rw [← HM.out]; exact hc)
  rw [HN.out] at p1
  rw [← HM.out] at p2
  generalize bl1 r = br1 at *
  generalize cs1 r = kr1 at *
  have hst := (p5 (s.t.length : Int)).1
  have HB2 := Lib.hid (HB1.out.trans (p5 (s.t.length : Int)).2)
  have hlen2 : ({ addS m s with t := set2 (addS m s).t r c (s.t.length : Int) } : St).t.length = s.t.length + 1 := (length_set2 _ _ _ _).trans HN.out
  obtain ⟨gr2, cr2, bl2, cs2, q1, hv3, hv4⟩ := hst.view (inv_len1 HI2.out r c _) (by rw [hlen2]; omega)
  have q2 := hv3 s.t.length (by rw [hlen2]; omega)
  obtain ⟨q3, q4, q5⟩ := hv4 s.t.length (flp c) (by rw [hlen2]; omega) hfg
  rw [hlen2] at q1
  rw [← HM.out] at q2
  generalize bl2 s.t.length = br2 at *
  generalize cs2 s.t.length = kr2 at *
  have HST : Hid (StR base b lim _ (defS m s r c)) := Lib.hid (q5 (r : Int)).1
  have HB3 := Lib.hid (HB2.out.trans (q5 (r : Int)).2)
  have HQ := Lib.hid (⟨q1, q2, q3, q4⟩ : _ ∧ _ ∧ _ ∧ _)
  have hrn : (r : Int) < (((s.t.length + 1 : Nat)) : Int) := by omega
  have hnn1 : (s.t.length : Int) < (((s.t.length + 1 : Nat)) : Int) := by omega
  clear hv1 hv2 hv3 hv4 p5 q1 q2 q3 q4 q5 hst hlen2
  go_upto_region 7 with fail
  generalize w1.setCell ⟨br1, c, none⟩ (.int .i64 (s.t.length : Int)) = w2 at *
  clear p1 p2 p3 p4
  obtain ⟨q1, q2, q3, q4⟩ := HQ.out
  go_wp2_with fail
  go_ret
  exact ⟨rfl, HST.out, HB3.out⟩
end Go.Proofs
namespace Go.Proofs
open Go.RowKit Go.Shelf Go.Proofs.Ct Go.Maps
def openV : Option (Nat × Nat) → Value
  | none => .tuple #[.int .i64 0, .int .i64 0, .bool false]
  | some (f, c) => .tuple #[.int .i64 (f : Int), .int .i64 (c : Int), .bool true]
end Go.Proofs
namespace Go.Proofs.Ct
def outM (s : St) (r : Nat) (w : W) : Int × Int × Bool × Bool :=
  if fwd s.t r w = w.length then (0, 0, false, false) else
  if w.length ≤ fwd s.t r w + bwd s.t r w (fwd s.t r w) then (0, 0, false, false) else
  if w.length = fwd s.t r w + bwd s.t r w (fwd s.t r w) + 1 then (leadTo s.t r w (fwd s.t r w), (col (w.getD (fwd s.t r w) 0) : Nat), false, true) else
  (leadTo s.t r w (fwd s.t r w), (col (w.getD (fwd s.t r w) 0) : Nat), true, false)
end Go.Proofs.Ct
namespace Go.Proofs
open Go.RowKit Go.Shelf Go.Proofs.Ct Go.Maps
def openR (o : Int × Int × Bool × Bool) : Value := .tuple #[.int .i64 o.1, .int .i64 o.2.1, .bool o.2.2.1, .bool o.2.2.2]
theorem results_tmp4 {fn : Func} {t u v x : Tmp} (h : fn.results = #[.tmp t, .tmp u, .tmp v, .tmp x]) (tmps : Array Value) (P : Program) (w : World) :
    (results fn tmps).run P w = .ok (.tuple #[tmps.getD t undef, tmps.getD u undef, tmps.getD v undef, tmps.getD x undef]) w := by
  simp [results, h]
set_option maxRecDepth 100000 in
set_option maxHeartbeats 4000000 in
theorem scan150_any (g m base b lim r : Nat) (hm : m = 2 * g) (hg : g ≤ 16) (w : World) (s : St) (u : Value) (ws : W) (hR : Ct.Rest g s) (hS : StR base b lim w s) (hbw : base ≤ w.heap.size) (hn : s.t.length ≤ 1000000) (hu : IntsAt w u ws) (hl : LOk g ws) (hr : r < s.t.length) (hlr : s.rp r = r) :
    Calls Try.prog 203 #[.pointer (some ⟨b, 0, none⟩), .int .i64 (r : Int), u] w fun e w' => e = .returned (openR (outM s r ws)) ∧ StR base b lim w' (scanS m s r ws).1 ∧ Kf base w w' := by
  obtain ⟨Au, cu, rfl, hu1, hu2, hu3⟩ := hu.open_
  have HU := Lib.hid hu3
  have HR := Lib.hid hR
  have HL := Lib.hid hl
  have HLI := Lib.hid hl.inv
  have HM := Lib.hid hm
  have HBW := Lib.hid hbw
  have HS : Hid (∀ q, StR base b lim (w.drewN q) s) := Lib.hid fun q => hS.below (below_drewN (Below.refl _ _) q)
  have HBE : Hid (∀ q, Kf base w (w.drewN q)) := Lib.hid fun q => (Kf.refl _ _).drewN q
  obtain ⟨gr, cr, bl, cs, v1, v2, v3⟩ := hS.view hR.inv.len (by omega)
  have HAT : Hid (∀ r c, r < s.t.length → c < 2 * g → w.cell? ⟨gr, r, none⟩ = some (.slice (some ⟨bl r, 0, none⟩) m (cs r)) ∧ w.cell? ⟨bl r, c, none⟩ = some (.int .i64 (s.t.at r c))) := Lib.hid fun r c h1 h2 => by
    have a2 := v2 r h1
    rw [← hm] at a2
    exact ⟨a2, (v3 r c h1 h2).1⟩
  have HWR : Hid (∀ r c, r < s.t.length → c < 2 * g → w.frozen? ⟨bl r, c, none⟩ = false ∧ ∀ z, StR base b lim (w.setCell ⟨bl r, c, none⟩ (.int .i64 z)) { s with t := set2 s.t r c z } ∧ Kf base w (w.setCell ⟨bl r, c, none⟩ (.int .i64 z))) := Lib.hid fun r c h1 h2 => (v3 r c h1 h2).2
  clear v2 v3
  have HCO : Hid (∀ (x : Int) n, -(g : Int) ≤ x ∧ x ≤ g ∧ x ≠ 0 → Calls Try.prog 132 #[.int .i64 x] (w.drewN n) fun e w' => e = .returned (.int .i64 (col x : Nat)) ∧ w.drewN n = w') := Lib.hid fun x n h => col108_any _ _ (by omega)
  have HLV : Hid (∀ k, k ≤ ws.length → 0 ≤ leadTo s.t r ws k → (leadTo s.t r ws k).toNat < s.t.length) := Lib.hid fun k h1 h2 => (lead_live hR hl hr hlr k h1 h2).1
  have HLB : Hid (∀ k, k ≤ ws.length → 0 ≤ leadTo s.t r (Ct.inv ws) k → (leadTo s.t r (Ct.inv ws) k).toNat < s.t.length) := Lib.hid fun k h1 h2 => (lead_live hR hl.inv hr hlr k (by rw [length_inv]; exact h1) h2).1
  have HCN : Hid (∀ q x y, x < s.t.length → y < s.t.length → Calls Try.prog 220 #[.pointer (some ⟨b, 0, none⟩), .int .i64 (x : Int), .int .i64 (y : Int)] (w.drewN q) fun e w' => e = .returned (.tuple #[]) ∧ StR base b lim w' (coinS m s x y) ∧ Kf base (w.drewN q) w') := Lib.hid fun q x y h1 h2 =>
    coincide154_any g m base b lim x y hm _ s hR hg (HS.out q) (Nat.le_trans hbw (HBE.out q).size) h1 h2 hn
  have hgm : m ≤ 32 := by omega
  have hr0 : (0 : Int) ≤ (r : Int) := Int.natCast_nonneg _
  have hn0 : (s.t.length : Int) ≤ 1000000 := by omega
  have hws0 : (0 : Int) ≤ (ws.length : Int) := Int.natCast_nonneg _
  have hws1 : (ws.length : Int) ≤ 9223372036854775807 := by omega
  have HRB := Lib.hid (hR.inv.bd)
  clear hS hu hu3 hR hl hm hbw
  go_enter Try.func203, Try.ntmps203
  go_wp2_with fail
  go_loopw [10, 11] (fun f i wr => ∃ k z : Nat, i = .int .i64 k ∧ k ≤ ws.length ∧ f = .int .i64 (z : Int) ∧ z < s.t.length ∧ Hid ((z : Int) = leadTo s.t r ws k) ∧ Hid (∀ j, j < k → 0 ≤ leadTo s.t r ws (j + 1)) ∧ ∃ q, wr = w.drewN q) (fun _ i _ => ws.length - (intOf i).toNat)
  case atStart => exact ⟨0, r, rfl, by omega, rfl, hr, Lib.hid rfl, Lib.hid fun j hj => absurd hj (by omega), 0, rfl⟩
  case round =>
    obtain ⟨k, z, rfl, hk, rfl, hz, HZ, HJ, q, rfl⟩ := hrel
    have hk0 : (0 : Int) ≤ (k : Int) := Int.natCast_nonneg _
    have hz0 : (0 : Int) ≤ (z : Int) := Int.natCast_nonneg _
    have hzI : (z : Int) < (s.t.length : Int) := by omega
    by_cases hlt : k < ws.length
    · have hlt' : (k : Int) < (ws.length : Int) := by omega
      obtain ⟨bw, ow, rfl, hcc⟩ := HU.out (by omega)
      have hcc0 := Lib.hid hcc
      have hck := hcc k hlt
      have hx := HL.out.getD hlt
      have hcx := HL.out.col hlt
      obtain ⟨a2, a3⟩ := HAT.out z (col (ws.getD k 0)) hz hcx
      generalize hbz : bl z = br at *
      have HBZ := Lib.hid hbz
      clear hbz
      generalize cs z = kr at *
      have HNX : Hid (leadTo s.t r ws (k + 1) = s.t.at z (col (ws.getD k 0))) := Lib.hid (by
        rw [leadTo_succ, ← HZ.out, if_neg (by omega), Int.toNat_natCast])
      have hbd := HRB.out z hz _ hcx
      have HC1 : Hid (∀ n, Calls Try.prog 132 #[.int .i64 (ws.getD k 0)] (w.drewN n) fun e w' => e = .returned (.int .i64 (col (ws.getD k 0) : Nat)) ∧ w.drewN n = w') := Lib.hid fun n => HCO.out _ n hx
      have hc0 : (0 : Int) ≤ ((col (ws.getD k 0) : Nat) : Int) := Int.natCast_nonneg _
      have hc1 : ((col (ws.getD k 0) : Nat) : Int) < (m : Int) := by have := HM.out; omega
      clear hcc hx
      by_cases hy : s.t.at z (col (ws.getD k 0)) < 0
      · have HK : Hid (leadTo s.t r ws (k + 1) < 0) := Lib.hid (by rw [HNX.out]; exact hy)
        have HF : Hid (fwd s.t r ws = k) := Lib.hid (fwd_eq (by omega) (.inr HK.out) HJ.out)
        have d1 : ((k : Int) == (ws.length : Int)) = false := by rw [beq_eq_false_iff_ne]; omega
        have HX0 := Lib.hid hcx
        obtain ⟨hy1, hy2⟩ := hbd
        generalize s.t.at z (col (ws.getD k 0)) = y at *
        generalize hce : col (ws.getD k 0) = cx at *
        have HCE := Lib.hid hce
        clear hce
        generalize hxe : ws.getD k 0 = x at *
        have HXQ := Lib.hid hxe
        clear hxe
        go_wp2_with fail
        go_quiet ((go_at_call 132; exact quiet_add_left (HC1.out _)))
        go_wp2_with fail
        go_loopw [12, 13] (fun bb jj wr => ∃ (p v : Nat) (J : Int), p ≤ ws.length ∧ jj = .int .i64 J ∧ J = (ws.length : Int) - 1 - p ∧ bb = .int .i64 (v : Int) ∧ v < s.t.length ∧ Hid ((v : Int) = leadTo s.t r (Ct.inv ws) p) ∧ Hid (∀ j, j < p → k + j < ws.length ∧ 0 ≤ leadTo s.t r (Ct.inv ws) (j + 1)) ∧ ∃ q, wr = w.drewN q) (fun _ j _ => (intOf j + 1).toNat)
        case atStart => exact ⟨0, r, _, by omega, rfl, by omega, rfl, hr, Lib.hid rfl, Lib.hid fun j hj => absurd hj (by omega), (by first | exact ⟨_, rfl⟩ | exact ex_drewN)⟩
        case round =>
          obtain ⟨p, v, J, hp, rfl, hJ, rfl, hv, HV, HP, q2, rfl⟩ := hrel
          have hv0 : (0 : Int) ≤ (v : Int) := Int.natCast_nonneg _
          have hvI : (v : Int) < (s.t.length : Int) := by omega
          have hzne : ¬ fwd s.t r ws = ws.length := by rw [HF.out]; omega
          by_cases hkp : k + p < ws.length
          · obtain ⟨jn, rfl⟩ : ∃ jn : Nat, J = (jn : Int) := ⟨ws.length - 1 - p, by omega⟩
            have hjn : jn = ws.length - 1 - p := by omega
            have hjl : jn < ws.length := by omega
            have hj0 : (0 : Int) ≤ (jn : Int) := Int.natCast_nonneg _
            have hj1 : (jn : Int) < (ws.length : Int) := by omega
            have hj2 : (k : Int) ≤ (jn : Int) := by omega
            have d3 : decide ((k : Int) ≤ (jn : Int)) = true := decide_eq_true hj2
            have hcj := hcc0.out jn hjl
            have hx2 := HL.out.getD hjl
            have hcx2 : flp (col (ws.getD jn 0)) < 2 * g := flp_lt2 (HL.out.col hjl)
            obtain ⟨b2, b3⟩ := HAT.out v (flp (col (ws.getD jn 0))) hv hcx2
            generalize bl v = br2 at *
            generalize cs v = kr2 at *
            have HNX2 : Hid (leadTo s.t r (Ct.inv ws) (p + 1) = s.t.at v (flp (col (ws.getD jn 0)))) := Lib.hid (by
              rw [leadTo_succ, ← HV.out, if_neg (by omega), Int.toNat_natCast, inv_getD (by omega), ← hjn, col_inv hx2.2.2])
            have hbd2 := HRB.out v hv _ hcx2
            have HC2 : Hid (∀ n, Calls Try.prog 132 #[.int .i64 (ws.getD jn 0)] (w.drewN n) fun e w' => e = .returned (.int .i64 (col (ws.getD jn 0) : Nat)) ∧ w.drewN n = w') := Lib.hid fun n => HCO.out _ n hx2
            have hcl2 := HL.out.col hjl
            have hfe := flp_eq (col (ws.getD jn 0)) (by have := HM.out; omega)
            have hd0 : (0 : Int) ≤ ((flp (col (ws.getD jn 0)) : Nat) : Int) := Int.natCast_nonneg _
            have hd1 : ((flp (col (ws.getD jn 0)) : Nat) : Int) < (m : Int) := by have := HM.out; omega
            have hd2 : (0 : Int) ≤ ((col (ws.getD jn 0) : Nat) : Int) := Int.natCast_nonneg _
            have hd3 : ((col (ws.getD jn 0) : Nat) : Int) < (m : Int) := by have := HM.out; omega
            clear hcx2 hcl2 hx2
            generalize flp (col (ws.getD jn 0)) = cx2 at *
            generalize col (ws.getD jn 0) = kx2 at *
            generalize ws.getD jn 0 = x2 at *
            obtain ⟨hy3, hy4⟩ := hbd2
            by_cases hyy : s.t.at v cx2 < 0
            · have HB : Hid (bwd s.t r ws k = p) := Lib.hid (bwd_eq hp (.inr (by rw [HNX2.out]; exact hyy)) HP.out)
              have HBV := Lib.hid HV.out
              have hzz : (leadTo s.t r ws k).toNat = z := by rw [← HZ.out]; rfl
              have hvv : (leadTo s.t r (Ct.inv ws) p).toNat = v := by rw [← HV.out]; rfl
              have hnle : ¬ ws.length ≤ k + p := by omega
              by_cases hjk : jn = k
              · have HSC : Hid (scanS m s r ws = (joinS s z cx v, none) ∧ outM s r ws = ((z : Int), (cx : Int), false, true)) := Lib.hid ⟨by
                  unfold scanS
                  rw [if_neg hzne, HF.out, HB.out, if_neg hnle, if_pos (by omega), hzz, hvv, HXQ.out, HCE.out], by
                  unfold outM
                  rw [if_neg hzne, HF.out, HB.out, if_neg hnle, if_pos (by omega), ← HZ.out, HXQ.out, HCE.out]⟩
                have d4 : ((jn : Int) == (k : Int)) = true := by rw [hjk]; simp
                have d5 : decide ((jn : Int) < (k : Int)) = false := by simp; omega
                have hfe2 := flp_eq cx (by have := HX0.out; omega)
                have hfg : flp cx < 2 * g := flp_lt2 HX0.out
                have hfm : ((flp cx : Nat) : Int) < (m : Int) := by have := HM.out; omega
                have hfn : (0 : Int) ≤ ((flp cx : Nat) : Int) := Int.natCast_nonneg _
                obtain ⟨hwf, hwr⟩ := HWR.out z cx hz HX0.out
                rw [HBZ.out] at hwf hwr
                have hst := (hwr (v : Int)).1
                have hbe := (hwr (v : Int)).2
                have hlen2 : ({ s with t := set2 s.t z cx (v : Int) } : St).t.length = s.t.length := length_set2 _ _ _ _
                obtain ⟨gr3, cr3, bl3, cs3, q1, q2, q3⟩ := hst.view (inv_len1 HR.out.inv z cx _) (by rw [hlen2]; omega)
                have q4 := q2 v (by rw [hlen2]; omega)
                obtain ⟨q5, q6, q7⟩ := q3 v (flp cx) (by rw [hlen2]; omega) hfg
                rw [hlen2] at q1
                rw [← HM.out] at q4
                have hst2 := (q7 (z : Int)).1
                have hbe2 := hbe.trans (q7 (z : Int)).2
                clear q2 q3 q7 hlen2
                generalize bl3 v = br3 at *
                generalize cs3 v = kr3 at *
                have HST : Hid (∀ Q, StR base b lim (((w.drewN Q).setCell ⟨br, cx, none⟩ (.int .i64 (v : Int))).setCell ⟨br3, flp cx, none⟩ (.int .i64 (z : Int))) (joinS s z cx v)) := Lib.hid fun Q => hst2.below (below_drewN (Below.refl _ _) Q)
                have HBF : Hid (∀ Q, Kf base w (((w.drewN Q).setCell ⟨br, cx, none⟩ (.int .i64 (v : Int))).setCell ⟨br3, flp cx, none⟩ (.int .i64 (z : Int)))) := Lib.hid fun Q => hbe2.drewN Q
                have HQ : Hid (∀ Q, ((w.drewN Q).setCell ⟨br, cx, none⟩ (.int .i64 (v : Int))).cell? ⟨b, 0, none⟩ = some (.slice (some ⟨gr3, 0, none⟩) s.t.length cr3) ∧ ((w.drewN Q).setCell ⟨br, cx, none⟩ (.int .i64 (v : Int))).cell? ⟨gr3, v, none⟩ = some (.slice (some ⟨br3, 0, none⟩) m kr3) ∧
                    (∃ x, ((w.drewN Q).setCell ⟨br, cx, none⟩ (.int .i64 (v : Int))).cell? ⟨br3, flp cx, none⟩ = some x) ∧ ((w.drewN Q).setCell ⟨br, cx, none⟩ (.int .i64 (v : Int))).frozen? ⟨br3, flp cx, none⟩ = false) := Lib.hid fun Q => ⟨q1, q4, ⟨_, q5⟩, q6⟩
                clear hst hbe hst2 hbe2 q1 q4 q5 q6 hwr
                clear hzne hzz hvv hnle hjn hJ hjk
                go_wp2_with fail
                go_quiet ((go_at_call 132; exact quiet_add_left (HC2.out _)))
                go_upto_region 19 with (first
                  | (go_at_call 132; (with_reducible refine (HC1.out _).mono ?_); rintro E w1 ⟨rfl, rfl⟩))
                obtain ⟨q1, q4, ⟨x5, q5⟩, q6⟩ := HQ.out (q2 + nq)
                have HS9 := Lib.hid (HST.out (q2 + nq))
                have HB9 := Lib.hid (HBF.out (q2 + nq))
                clear HQ HST HBF v1 a2 a3 b2 b3 hwf
                generalize (w.drewN (q2 + nq)).setCell ⟨br, cx, none⟩ (.int .i64 (v : Int)) = w9 at *
                go_wp2_with fail
                try simp only [Exit.inBlock, Exit.then]
                refine bodyPost_ret (results_tmp4 rfl _ _ _) rfl ?_
                exact ⟨by rw [HSC.out.2]; rfl, by rw [HSC.out.1]; exact HS9.out, HB9.out⟩
              · have HSC : Hid (scanS m s r ws = (s, some (z, cx)) ∧ outM s r ws = ((z : Int), (cx : Int), true, false)) := Lib.hid ⟨by
                  unfold scanS
                  rw [if_neg hzne, HF.out, HB.out, if_neg hnle, if_neg (by omega), hzz, HXQ.out, HCE.out], by
                  unfold outM
                  rw [if_neg hzne, HF.out, HB.out, if_neg hnle, if_neg (by omega), ← HZ.out, HXQ.out, HCE.out]⟩
                have d4 : ((jn : Int) == (k : Int)) = false := by rw [beq_eq_false_iff_ne]; omega
                have d5 : decide ((jn : Int) < (k : Int)) = false := by simp; omega
                clear hzne hzz hvv hnle hjn hJ hjk
                go_wp2_with fail
                go_quiet ((go_at_call 132; exact quiet_add_left (HC2.out _)))
                go_wp2_with (first
                  | (go_at_call 132; (with_reducible refine (HC1.out _).mono ?_); rintro E w1 ⟨rfl, rfl⟩))
                try simp only [Exit.inBlock, Exit.then]
                refine bodyPost_ret (results_tmp4 rfl _ _ _) rfl ?_
                exact ⟨by rw [HSC.out.2]; rfl, by rw [HSC.out.1]; exact HS.out _, HBE.out _⟩
            · obtain ⟨v', hv'⟩ : ∃ v' : Nat, s.t.at v cx2 = v' := ⟨(s.t.at v cx2).toNat, by omega⟩
              rw [hv'] at b3 HNX2 hy4
              have HJN : Hid ((jn : Int) = (ws.length : Int) - 1 - p) := Lib.hid (by omega)
              clear hyy hv' hjn hJ
              have hv1 : (0 : Int) ≤ (v' : Int) := Int.natCast_nonneg _
              go_wp2_with fail
              go_quiet ((go_at_call 132; exact quiet_add_left (HC2.out _)))
              go_wp2_with fail
              go_quiet ((go_at_call 132; exact quiet_add_left (HC2.out _)))
              go_wp2_with fail
              go_roundw
              case rel => exact ⟨p + 1, v', _, by omega, rfl, by have := HJN.out; omega, rfl, by omega, Lib.hid HNX2.out.symm, Lib.hid (all_succ HP.out ⟨hkp, by rw [HNX2.out]; omega⟩), (by first | exact ⟨_, rfl⟩ | exact ex_drewN)⟩
              case measure => simp [intOf]
          · have HB : Hid (bwd s.t r ws k = p) := Lib.hid (bwd_eq hp (.inl (by omega)) HP.out)
            have hzz : (leadTo s.t r ws k).toNat = z := by rw [← HZ.out]; rfl
            have hvv : (leadTo s.t r (Ct.inv ws) p).toNat = v := by rw [← HV.out]; rfl
            have HSC : Hid (scanS m s r ws = (coinS m s z v, none) ∧ outM s r ws = (0, 0, false, false)) := Lib.hid ⟨by
              unfold scanS
              rw [if_neg hzne, HF.out, HB.out, if_pos (by omega), hzz, hvv], by
              unfold outM
              rw [if_neg hzne, HF.out, HB.out, if_pos (by omega)]⟩
            have hJk : J < (k : Int) := by omega
            have d3 : decide ((k : Int) ≤ J) = false := by simp; omega
            have d5 : decide (J < (k : Int)) = true := by simp; omega
            have HC3 := Lib.hid fun q => HCN.out q z v hz hv
            clear hzne hzz hvv hkp hJ
            go_wp2_with fail
            go_quiet (fail)
            go_wp2_with (first
              | (go_at_call 132; (with_reducible refine (HC1.out _).mono ?_); rintro E w1 ⟨rfl, rfl⟩)
              | (go_at_call 220; (with_reducible refine (HC3.out _).mono ?_); rintro E w1 ⟨rfl, hs1, hb1⟩
                 have HS1 := Lib.hid hs1
                 have HB1 := Lib.hid hb1
                 clear hs1 hb1))
            try simp only [Exit.inBlock, Exit.then]
            refine bodyPost_ret (results_tmp4 rfl _ _ _) rfl ?_
            exact ⟨by rw [HSC.out.2]; rfl, by rw [HSC.out.1]; exact HS1.out, (HBE.out _).trans HB1.out⟩
      · obtain ⟨z', hz'⟩ : ∃ z' : Nat, s.t.at z (col (ws.getD k 0)) = z' := ⟨(s.t.at z (col (ws.getD k 0))).toNat, by omega⟩
        rw [hz'] at a3 hbd HNX
        clear hy hz'
        generalize col (ws.getD k 0) = cx at *
        generalize ws.getD k 0 = x at *
        obtain ⟨hy1, hy2⟩ := hbd
        have hz1 : (0 : Int) ≤ (z' : Int) := Int.natCast_nonneg _
        go_wp2_with fail
        go_quiet ((go_at_call 132; exact quiet_add_left (HC1.out _)))
        go_wp2_with fail
        go_quiet ((go_at_call 132; exact quiet_add_left (HC1.out _)))
        go_wp2_with fail
        go_roundw
        case rel => exact ⟨k + 1, z', by go_num, by omega, rfl, by omega, Lib.hid HNX.out.symm, all_succ HJ.out (by rw [HNX.out]; omega), (by first | exact ⟨_, rfl⟩ | exact ex_drewN)⟩
        case measure => simp [intOf]; omega
    · obtain rfl : k = ws.length := by omega
      have HF : Hid (fwd s.t r ws = ws.length) := Lib.hid (fwd_eq (Nat.le_refl _) (.inl rfl) HJ.out)
      by_cases hzr : z = r
      · have HSC : Hid (scanS m s r ws = (s, none) ∧ outM s r ws = (0, 0, false, false)) := Lib.hid ⟨by unfold scanS; rw [if_pos HF.out, HF.out, ← HZ.out, if_pos (by rw [hzr])], by unfold outM; rw [if_pos HF.out]⟩
        have d1 : ((z : Int) != (r : Int)) = false := by rw [hzr]; simp
        have d2 : ((ws.length : Int) == (ws.length : Int)) = true := by simp
        clear hlt
        go_wp2_with fail
        go_quiet (fail)
        go_wp2_with fail
        try simp only [Exit.inBlock, Exit.then]
        refine bodyPost_ret (results_tmp4 rfl _ _ _) rfl ?_
        exact ⟨by rw [HSC.out.2]; rfl, by rw [HSC.out.1]; exact HS.out _, HBE.out _⟩
      · have HSC : Hid (scanS m s r ws = (coinS m s z r, none) ∧ outM s r ws = (0, 0, false, false)) := Lib.hid ⟨by unfold scanS; rw [if_pos HF.out, HF.out, ← HZ.out, if_neg (by omega), Int.toNat_natCast], by unfold outM; rw [if_pos HF.out]⟩
        have d1 : ((z : Int) != (r : Int)) = true := by simp; omega
        have d2 : ((ws.length : Int) == (ws.length : Int)) = true := by simp
        clear hlt
        have HC2 := Lib.hid fun q => HCN.out q z r hz hr
        go_wp2_with fail
        go_quiet (fail)
        go_wp2_with (first
          | (go_at_call 220; (with_reducible refine (HC2.out _).mono ?_); rintro E w1 ⟨rfl, hs1, hb1⟩
             have HS1 := Lib.hid hs1
             have HB1 := Lib.hid hb1
             clear hs1 hb1))
        try simp only [Exit.inBlock, Exit.then]
        refine bodyPost_ret (results_tmp4 rfl _ _ _) rfl ?_
        exact ⟨by rw [HSC.out.2]; rfl, by rw [HSC.out.1]; exact HS1.out, (HBE.out _).trans HB1.out⟩
end Go.Proofs
namespace Go.Proofs
open Go.RowKit Go.Shelf Go.Proofs.Ct Go.Maps
def rowsIn (b : Nat) (w : World) : Nat := match w.cell? ⟨b, 2, none⟩ with
  | some (.slice _ n _) => n
  | _ => 0
end Go.Proofs
namespace Go.Proofs.Ct
theorem fwd_pos0 {t : Tb} {r : Nat} {w : W} : 0 ≤ leadTo t r w (fwd t r w) := by
  have h := (fwd_spec t r w).2.2
  cases e : fwd t r w with
  | zero => exact Int.natCast_nonneg r
  | succ k => exact h k (by omega)
theorem outM_none {m r : Nat} {s s' : St} {w : W} (h : scanS m s r w = (s', none)) : ∃ a b d, outM s r w = (a, b, false, d) := by
  unfold scanS at h
  unfold outM
  split
  · exact ⟨_, _, _, rfl⟩
  · rename_i h1
    rw [if_neg h1] at h
    split
    · exact ⟨_, _, _, rfl⟩
    · rename_i h2
      rw [if_neg h2] at h
      split
      · exact ⟨_, _, _, rfl⟩
      · rename_i h3
        rw [if_neg h3] at h
        simp at h
theorem outM_some {m r f c : Nat} {s s' : St} {w : W} (h : scanS m s r w = (s', some (f, c))) : outM s r w = ((f : Int), (c : Int), true, false) := by
  unfold scanS at h
  unfold outM
  split at h
  · simp at h
  · rename_i h1
    rw [if_neg h1]
    split at h
    · simp at h
    · rename_i h2
      rw [if_neg h2]
      split at h
      · simp at h
      · rename_i h3
        rw [if_neg h3]
        have := fwd_pos0 (t := s.t) (r := r) (w := w)
        simp only [Prod.mk.injEq, Option.some.injEq] at h
        obtain ⟨-, h4, h5⟩ := h
        rw [← h4, ← h5]
        simp only [Prod.mk.injEq, and_true]
        omega
end Go.Proofs.Ct
namespace Go.Proofs
open Go.RowKit Go.Shelf Go.Proofs.Ct Go.Maps
end Go.Proofs
namespace Go.Proofs
open Go.RowKit Go.Shelf Go.Proofs.Ct Go.Maps
namespace Ct
theorem opt_stop {α : Type} {f : Nat → α → Option α} {s s' : α} {k : Nat} (h : optTo f k s = some s') (hf : ∀ i, k ≤ i → f i s' = some s') : ∀ n, k ≤ n → optTo f n s = some s'
  | 0, hn => by rw [show k = 0 by omega] at h; exact h
  | n + 1, hn => by
    by_cases e : k = n + 1
    · rw [← e]; exact h
    · rw [optTo_succ, opt_stop h hf n (by omega)]; exact hf n (by omega)
end Ct
def Words (base : Nat) (w : World) (v : Value) (l : List W) : Prop := ∃ w0, w0.heap.size = base ∧ Tab w0 v l ∧ Below base w0 w
theorem Words.tab {base : Nat} {w : World} {v : Value} {l : List W} (h : Words base w v l) {W : World} (hb : Below base w W) : Tab W v l := by
  obtain ⟨w0, rfl, ht, h0⟩ := h
  exact kept_tab.below ht (h0.trans hb)
theorem Words.at_ {base : Nat} {w : World} {v : Value} {l : List W} (h : Words base w v l) {k : Nat} (hk : k < l.length) : ∃ b o c u, v = .slice (some ⟨b, o, none⟩) l.length c ∧ ∀ W, Below base w W → W.cell? ⟨b, o + k, none⟩ = some u ∧ IntsAt W u (l.getD k []) := by
  obtain ⟨w0, rfl, ht, h0⟩ := h
  obtain ⟨A, c, rfl, -, -, h3⟩ := ht.open_
  obtain ⟨b, o, rfl, h4⟩ := h3 (by omega)
  obtain ⟨u, hu, hI⟩ := h4 k hk
  exact ⟨b, o, c, u, rfl, fun W hW => ⟨((h0.trans hW).cell (p := ⟨b, o + k, none⟩) (World.block_lt_of_cell? w0 _ hu)).trans hu, kept_ints.below hI (h0.trans hW)⟩⟩
end Go.Proofs
namespace Go.Proofs
open Go.RowKit Go.Shelf Go.Proofs.Ct Go.Maps
theorem StR.live {base b lim : Nat} {w : World} {s : St} (hS : StR base b lim w s) {r : Nat} (hr : r < s.t.length) : ∃ (y gp cp : Nat), w.cell? ⟨b, 1, none⟩ = some (.slice (some ⟨gp, 0, none⟩) s.t.length cp) ∧ w.cell? ⟨gp, r, none⟩ = some (.int .i64 (y : Int)) ∧ (y = r ↔ s.rp r = r) := by
  obtain ⟨P, gp, cp, c1, hR, hc⟩ := hS.par hr
  obtain ⟨y, hy, -, -, hyi⟩ := (hR.root r hr).parent
  have hck := hc r hr
  rw [hy] at hck
  exact ⟨y, gp, cp, c1, hck, hyi⟩
end Go.Proofs
namespace Go.Proofs.Ct
def nmL (s : St) (k : Nat) : List Int := (List.range s.t.length).map fun i => if i < k ∧ s.rp i = i then (num s i : Int) else 0
theorem length_nmL (s : St) (k : Nat) : (nmL s k).length = s.t.length := by simp [nmL]
theorem nmL_getD (s : St) (k : Nat) {i : Nat} (h : i < s.t.length) : (nmL s k).getD i 0 = if i < k ∧ s.rp i = i then (num s i : Int) else 0 := by
  unfold nmL
  simp [List.getD_eq_getElem?_getD, h]
theorem nmL_zero (s : St) : nmL s 0 = List.replicate s.t.length 0 := getD_ext (d := 0) (by simp [length_nmL]) fun i hi => by
  rw [length_nmL] at hi
  rw [nmL_getD s 0 hi, if_neg (by omega)]
  simp [List.getD_eq_getElem?_getD, hi]
theorem nmL_live {s : St} {k : Nat} (h : k < s.t.length) (hl : s.rp k = k) : nmL s (k + 1) = (nmL s k).set k (num s k) := getD_ext (d := 0) (by simp [length_nmL]) fun i hi => by
  rw [length_nmL] at hi
  rw [nmL_getD s _ hi, getD_set, length_nmL]
  by_cases e : k = i
  · subst e; rw [if_pos ⟨by omega, hl⟩, if_pos ⟨rfl, h⟩]
  · rw [if_neg (fun h' : k = i ∧ k < s.t.length => e h'.1), nmL_getD s _ hi]
    by_cases h2 : i < k ∧ s.rp i = i
    · rw [if_pos h2, if_pos ⟨by omega, h2.2⟩]
    · rw [if_neg h2, if_neg (fun h' => h2 ⟨by omega, h'.2⟩)]
theorem nmL_dead {s : St} {k : Nat} (hl : s.rp k ≠ k) : nmL s (k + 1) = nmL s k := getD_ext (d := 0) (by simp [length_nmL]) fun i hi => by
  rw [length_nmL] at hi
  rw [nmL_getD s _ hi, nmL_getD s _ hi]
  by_cases h2 : i < k ∧ s.rp i = i
  · rw [if_pos h2, if_pos ⟨by omega, h2.2⟩]
  · rw [if_neg h2, if_neg (fun h' => h2 ⟨by
      rcases Nat.lt_or_ge i k with h3 | h3
      · exact h3
      · obtain rfl : i = k := by omega
        exact absurd h'.2 hl, h'.2⟩)]
def tabTo (s : St) (k : Nat) : Tb := (livTo s k).map fun x => (s.t.row x).map fun v => (num s v.toNat : Int)
theorem tabTo_live {s : St} {k : Nat} (hl : s.rp k = k) : tabTo s (k + 1) = tabTo s k ++ [(s.t.row k).map fun v => (num s v.toNat : Int)] := by
  unfold tabTo
  rw [livTo_succ, if_pos hl, List.map_append]
  rfl
theorem tabTo_dead {s : St} {k : Nat} (hl : s.rp k ≠ k) : tabTo s (k + 1) = tabTo s k := by
  unfold tabTo
  rw [livTo_succ, if_neg hl]
theorem length_tabTo (s : St) (k : Nat) : (tabTo s k).length = (livTo s k).length := by simp [tabTo]
def mixTo (f : Int → Int) (x : List Int) (c : Nat) : List Int := (x.take c).map f ++ x.drop c
theorem length_mix (f : Int → Int) (x : List Int) (c : Nat) : (mixTo f x c).length = x.length := by simp [mixTo]; omega
theorem mix_zero (f : Int → Int) (x : List Int) : mixTo f x 0 = x := by simp [mixTo]
theorem mix_all (f : Int → Int) (x : List Int) : mixTo f x x.length = x.map f := by simp [mixTo]
theorem mix_getD (f : Int → Int) (x : List Int) (c : Nat) {i : Nat} (h : i < x.length) : (mixTo f x c).getD i 0 = if i < c then f (x.getD i 0) else x.getD i 0 := by
  unfold mixTo
  rw [List.getD_eq_getElem?_getD, List.getElem?_append]
  by_cases h2 : i < c
  · rw [if_pos (by simp; omega), if_pos h2]
    simp [List.getD_eq_getElem?_getD, h, h2]
  · rw [if_neg (by simp; omega), if_neg h2]
    simp [List.getD_eq_getElem?_getD, Nat.min_eq_left (by omega : c ≤ x.length), show c + (i - c) = i by omega]
theorem mix_set (f : Int → Int) (x : List Int) {c : Nat} (h : c < x.length) : mixTo f x (c + 1) = (mixTo f x c).set c (f (x.getD c 0)) := getD_ext (d := 0) (by simp [length_mix]) fun i hi => by
  rw [length_mix] at hi
  rw [mix_getD f x _ hi, getD_set, length_mix]
  by_cases e : c = i
  · subst e; rw [if_pos (by omega), if_pos ⟨rfl, h⟩]
  · rw [if_neg (fun h' : c = i ∧ c < x.length => e h'.1), mix_getD f x _ hi]
    by_cases h2 : i < c
    · rw [if_pos h2, if_pos (by omega)]
    · rw [if_neg h2, if_neg (by omega)]
end Go.Proofs.Ct
namespace Go.Proofs
open Go.RowKit Go.Shelf Go.Proofs.Ct Go.Maps
end Go.Proofs
namespace Go.Proofs
open Go.RowKit Go.Shelf Go.Proofs.Ct Go.Maps
theorem xs_made (w : World) (s : St) : XsAt (w.alloc (.cells (Array.replicate s.t.length (.int .i64 0)) 3)) w.heap.size (nmL s 0) := by
  refine ⟨_, heap_alloc_new w _, by simp [length_nmL], fun k hk => ?_⟩
  rw [length_nmL] at hk
  rw [nmL_zero]
  simp [List.getD_eq_getElem?_getD, hk]
theorem fits_tab {g lim : Nat} {s : St} (_hG : Ct.Good g lim s) (hn : s.t.length ≤ 20000) (x : List Int) (hx : ∀ v ∈ x, v.toNat ≤ s.t.length) : Fits (x.map fun v => (num s v.toNat : Int)) := fun z hz => by
  obtain ⟨v, hv, rfl⟩ := List.mem_map.1 hz
  have := livTo_le s v.toNat
  have := hx v hv
  show -9223372036854775808 ≤ ((num s v.toNat : Nat) : Int) ∧ ((num s v.toNat : Nat) : Int) ≤ 9223372036854775807
  unfold num
  omega
end Go.Proofs
namespace Go.Proofs
open Go.RowKit Go.Shelf Go.Proofs.Ct Go.Maps
set_option maxRecDepth 100000 in
set_option maxHeartbeats 4000000 in
theorem result90_any (g m base b lim : Nat) (hm : m = 2 * g) (hg : g ≤ 16) (hg1 : 1 ≤ g) (w : World) (s : St) (hS : StR base b lim w s) (hG : Ct.Good g lim s) (hC : Comp g s s.t.length) (hlim : lim ≤ 20000) :
    Calls Try.prog 114 #[.pointer (some ⟨b, 0, none⟩), .int .i64 (g : Int)] w fun e w' => ∃ u, e = .returned u ∧ TabB w.heap.size w' u (stdE g (tabS s) 0).1 ∧ Below w.heap.size w w' := by
  have hn : s.t.length ≤ 20000 := Nat.le_trans hG.n2 hlim
  have hn1 := hG.n1
  have hn0 : (s.t.length : Int) ≤ 20000 := by omega
  have hn2 : (0 : Int) ≤ (s.t.length : Int) := Int.natCast_nonneg _
  obtain ⟨gr, cr, bl, cs, hrows, hv1, hv2⟩ := hS.view hG.rest.inv.len (by omega)
  have HRO := Lib.hid hrows
  have HV1 : Hid (∀ W, Below w.heap.size w W → ∀ r, r < s.t.length → W.cell? ⟨gr, r, none⟩ = some (.slice (some ⟨bl r, 0, none⟩) (2 * g) (cs r))) := Lib.hid fun W h r hr => (h.cell (p := ⟨gr, r, none⟩) (World.block_lt_of_cell? w _ (hv1 r hr))).trans (hv1 r hr)
  have HV2 : Hid (∀ W, Below w.heap.size w W → ∀ r c, r < s.t.length → c < 2 * g → W.cell? ⟨bl r, c, none⟩ = some (.int .i64 (s.t.at r c))) := Lib.hid fun W h r c hr hc => (h.cell (p := ⟨bl r, c, none⟩) (World.block_lt_of_cell? w _ (hv2 r c hr hc).1)).trans (hv2 r c hr hc).1
  have HVO : Hid (∀ W, Below w.heap.size w W → W.cell? ⟨b, 0, none⟩ = some (.slice (some ⟨gr, 0, none⟩) s.t.length cr)) := Lib.hid fun W h => (h.cell (p := ⟨b, 0, none⟩) (World.block_lt_of_cell? w _ hrows)).trans hrows
  have HS := Lib.hid hS
  have HG := Lib.hid hG
  have HC := Lib.hid hC
  have HM := Lib.hid hm
  have HTS := Lib.hid (tab_std hg1 hg hlim hG hC)
  have HR1 : Hid ((Instr.makeSlice 24 (.int .i64 (s.t.length : Int)) (.int .i64 (s.t.length : Int))).run Try.prog w = .ok (.slice (some ⟨w.heap.size, 0, none⟩) s.t.length s.t.length) (w.alloc (.cells (Array.replicate s.t.length (.int .i64 0)) 3))) := Lib.hid (make24r w _ (by omega))
  have HX1 := Lib.hid (xs_made w s)
  have HB1 : Hid (Below w.heap.size w (w.alloc (.cells (Array.replicate s.t.length (.int .i64 0)) 3))) := Lib.hid ((Below.refl _ _).alloc (Nat.le_refl _) _)
  generalize w.alloc (.cells (Array.replicate s.t.length (.int .i64 0)) 3) = W1 at *
  clear hS hG hC hm hv1 hv2
  go_enter Try.func114, Try.ntmps114
  go_wp2_with ((with_reducible refine wpList_sel 17 ?_); refine wpList_val rfl (r_make 24 (.tmp 16) (.tmp 16) rfl rfl rfl HR1.out) ?_)
  clear hrows
  go_loopg [7, 8] s.t.length (fun n v i wr => ∃ k : Nat, i = .int .i64 (k : Int) ∧ n = s.t.length - k ∧ k ≤ s.t.length ∧ v = .int .i64 ((num s k : Nat) : Int) ∧ Hid (XsAt wr w.heap.size (nmL s k)) ∧ Hid (Below w.heap.size w wr))
  case atStart => exact ⟨0, rfl, by omega, Nat.zero_le _, rfl, HX1, HB1⟩
  case round =>
    clear HX1 HB1
    obtain ⟨k, rfl, hgk, hk, rfl, HX, HB⟩ := hrel
    have HGK := Lib.hid hgk
    clear hgk
    have hk0 : (0 : Int) ≤ (k : Int) := Int.natCast_nonneg _
    have hnk : num s k ≤ k := livTo_le s k
    have hnk0 : (0 : Int) ≤ ((num s k : Nat) : Int) := Int.natCast_nonneg _
    have hnk1 : ((num s k : Nat) : Int) ≤ 20000 := by omega
    have hrowsk := HVO.out _ HB.out
    by_cases hlt : k < s.t.length
    · have hltI : (k : Int) < (s.t.length : Int) := by omega
      obtain ⟨y, gp, cp, p1, p2, hyi⟩ := (HS.out.below HB.out).live hlt
      have HYI := Lib.hid hyi
      clear hyi
      by_cases hal : s.rp k = k
      · obtain rfl : y = k := HYI.out.2 hal
        have d1 : ((y : Int) == (y : Int)) = true := by simp
        have HNL : Hid (nmL s (y + 1) = (nmL s y).set y (num s y)) := Lib.hid (nmL_live hlt hal)
        have HNK : Hid (num s (y + 1) = num s y + 1) := Lib.hid (by
          unfold num
          rw [livTo_succ, if_pos hal]
          simp)
        have hcx := HX.out.cell (k := y) (by rw [length_nmL]; exact hlt)
        have hfx := HX.out.frozen y
        have HX2 := Lib.hid (HX.out.set (k := y) (by rw [length_nmL]; exact hlt) (num s y))
        clear hal
        go_wp2_with fail
        go_roundg (s.t.length - (y + 1))
        case measure => have := HGK.out; omega
        case rel => exact ⟨y + 1, by go_num, rfl, by omega, by rw [HNK.out]; go_num, Lib.hid (by rw [HNL.out]; exact HX2.out), Lib.hid (HB.out.grown (grown_setCell _ _ _ _) HB.out.size (fun k hk => by cases hk; exact Nat.le_refl _))⟩
      · have hyk : ¬ y = k := fun h => hal (HYI.out.1 h)
        have d1 : ((y : Int) == (k : Int)) = false := by rw [beq_eq_false_iff_ne]; omega
        have HNL : Hid (nmL s (k + 1) = nmL s k) := Lib.hid (nmL_dead hal)
        have HNK : Hid (num s (k + 1) = num s k) := Lib.hid (by
          unfold num
          rw [livTo_succ, if_neg hal])
        clear hal hyk
        go_wp2_with fail
        go_roundg (s.t.length - (k + 1))
        case measure => have := HGK.out; omega
        case rel => exact ⟨k + 1, by go_num, rfl, by omega, by rw [HNK.out], Lib.hid (by rw [HNL.out]; exact HX.out), HB⟩
    · obtain rfl : k = s.t.length := by omega
      rename World => W2
      clear hlt
      have HST : Hid (OutSt 24 (fun _ => False) W2 W2 (.slice none 0 0) (tabTo s 0)) := Lib.hid (OutSt.nil 24 (Below.refl _ _))
      have HXN := HX
      have HBN := HB
      go_wp2_with fail
      go_loopg [6, 9] s.t.length (fun n v i wr => ∃ k : Nat, i = .int .i64 (k : Int) ∧ n = s.t.length - k ∧ k ≤ s.t.length ∧ ∃ (F : Nat → Prop) (A : Option Addr) (c : Nat), v = .slice A (tabTo s k).length c ∧ Hid (OutSt 24 F W2 wr (.slice A (tabTo s k).length c) (tabTo s k)))
      case atStart => exact ⟨0, rfl, by omega, Nat.zero_le _, _, none, 0, rfl, HST⟩
      case round =>
        clear HST HX HB HGK hnk hnk0 hnk1 hk0 hk hrowsk
        obtain ⟨k, rfl, hgk, hk, F, A, cA, rfl, HO⟩ := hrel
        have HGK := Lib.hid hgk
        clear hgk
        have hk0 : (0 : Int) ≤ (k : Int) := Int.natCast_nonneg _
        have HBK := Lib.hid (HBN.out.trans (HO.out.below.mono HBN.out.size))
        have a1 := HVO.out _ HBK.out
        by_cases hlt : k < s.t.length
        · have hltI : (k : Int) < (s.t.length : Int) := by omega
          obtain ⟨y, gp, cp, p1, p2, hyi⟩ := (HS.out.below HBK.out).live hlt
          have HYI := Lib.hid hyi
          clear hyi
          by_cases hal : s.rp k = k
          · obtain rfl : y = k := HYI.out.2 hal
            have d1 : ((y : Int) != (y : Int)) = false := by simp
            have HTL : Hid (tabTo s (y + 1) = tabTo s y ++ [(s.t.row y).map fun v => (num s v.toNat : Int)]) := Lib.hid (tabTo_live hal)
            have HRW : Hid (∀ c, c < 2 * g → ∃ z : Nat, s.t.at y c = (z : Int) ∧ z < s.t.length ∧ s.rp z = z) := Lib.hid fun c hc => by
              have h0 := HC.out y hlt hlt c hc
              rw [hal] at h0
              obtain ⟨z, hz⟩ := Int.eq_ofNat_of_zero_le h0
              obtain ⟨-, h2, h3⟩ := HG.out.rest.live hlt hc (show Ct.Edge s.t y c z from hz)
              exact ⟨z, hz, h3, h2⟩
            have HRL := Lib.hid (HG.out.rest.inv.len y hlt)
            have HRB : Hid (∀ v ∈ s.t.row y, v.toNat ≤ s.t.length) := Lib.hid fun v hv => by
              obtain ⟨c, hc, rfl⟩ := List.mem_iff_getElem.1 hv
              obtain ⟨z, hz, hz1, -⟩ := HRW.out c (by rw [← HG.out.rest.inv.len y hlt]; exact hc)
              unfold Tb.at at hz
              rw [List.getD_eq_getElem?_getD, List.getElem?_eq_getElem hc] at hz
              simp at hz
              omega
            have HTK := Lib.hid (length_tabTo s y)
            have HLK := Lib.hid (livTo_le s y)
            have HRN := Lib.hid HO.out.row_nil
            have HYL := Lib.hid hlt
            clear hal
            go_wp2_with fail
            go_loopg [10, 11] (2 * g) (fun n v i wx => ∃ (c : Nat) (A6 : Option Addr) (c6 : Nat), i = .int .i64 (c : Int) ∧ n = 2 * g - c ∧ c ≤ 2 * g ∧ v = .slice A6 c c6 ∧ Hid (OutSt2 24 F W2 wx (.slice A (tabTo s y).length cA) (.slice A6 c c6) (tabTo s y) (((s.t.row y).take c).map (fun v => (num s v.toNat : Int)))))
            case atStart => exact ⟨0, none, 0, rfl, by omega, Nat.zero_le _, rfl, HRN⟩
            case round =>
              clear HRN
              obtain ⟨c, A6, c6, rfl, hgc, hc, rfl, HO4⟩ := hrel
              have HGC := Lib.hid hgc
              clear hgc
              have hc0 : (0 : Int) ≤ (c : Int) := Int.natCast_nonneg _
              have HBX := Lib.hid (HBN.out.trans (HO4.out.st.below.mono HBN.out.size))
              have b1 := HVO.out _ HBX.out
              have b2 := HV1.out _ HBX.out y HYL.out
              by_cases hcg : c < 2 * g
              · have hcI : (c : Int) < 2 * (g : Int) := by omega
                obtain ⟨z, hz, hz1, hz2⟩ := HRW.out c hcg
                have b3 := HV2.out _ HBX.out y c HYL.out hcg
                rw [hz] at b3
                have hx2 := (HXN.out.below HO4.out.st.below).cell (k := z) (by rw [length_nmL]; exact hz1)
                rw [nmL_getD s _ hz1, if_pos ⟨hz1, hz2⟩] at hx2
                have hxl : (((s.t.row y).take c).map (fun v => (num s v.toNat : Int))).length = c := by rw [List.length_map, List.length_take, HRL.out]; omega
                obtain ⟨A8, c8, w8, hr8, hS8⟩ := HO4.out.add (by decide) 24 Try.underlying24 (num s z : Int) (by rw [hxl]; omega)
                have hsn := map_take_succ (f := fun v => (num s v.toNat : Int)) (show c < (s.t.row y).length by rw [HRL.out]; exact hcg)
                have hzz : (s.t.row y).getD c 0 = (z : Int) := hz
                rw [hzz] at hsn
                simp only [Int.toNat_natCast] at hsn
                rw [← hsn, hxl] at hS8
                rw [hxl] at hr8
                have HR8 := Lib.hid hr8
                have HS8 := Lib.hid hS8
                have hz0 : (0 : Int) ≤ (z : Int) := Int.natCast_nonneg _
                have hzI : (z : Int) < (s.t.length : Int) := by omega
                clear hr8 hS8 hsn hzz hz hxl
                generalize bl y = by' at *
                generalize cs y = cy at *
                go_wp2_with ((with_reducible refine wpList_sel 87 ?_); refine wpList_val rfl (r_app (.tmp 72) (.tmp 86) 24 rfl rfl rfl HR8.out) ?_)
                go_roundg (2 * g - (c + 1))
                case measure => have := HGC.out; omega
                case rel => exact ⟨c + 1, A8, c8, by go_num, rfl, by omega, rfl, HS8⟩
              · obtain rfl : c = 2 * g := by omega
                have hS := HO4.out
                rw [List.take_of_length_le (by rw [HRL.out]; exact Nat.le_refl _)] at hS
                obtain ⟨A8, c8, w8, hr8, hS8⟩ := hS.done (by decide) Try.underlying23 info24p (fits_tab HG.out (by omega) _ HRB.out) (by have := HTK.out; have := HLK.out; omega)
                rw [← HTL.out] at hS8
                have hlen : (tabTo s (y + 1)).length = (tabTo s y).length + 1 := by rw [HTL.out]; simp
                rw [← hlen] at hr8 hS8
                have HR8 := Lib.hid hr8
                have HS8 := Lib.hid hS8
                clear hr8 hS8 hS hlen
                generalize bl y = by' at *
                generalize cs y = cy at *
                go_wp2_with ((with_reducible refine wpList_sel 91 ?_); refine wpList_val rfl (r_app (.tmp 88) (.tmp 90) 23 rfl rfl rfl HR8.out) ?_)
                go_roundg (s.t.length - (y + 1))
                case measure => have := HGK.out; omega
                case rel => exact ⟨y + 1, by go_num, rfl, by omega, _, A8, c8, rfl, HS8⟩
          · have hyk : ¬ y = k := fun h => hal (HYI.out.1 h)
            have d1 : ((y : Int) != (k : Int)) = true := by simp; omega
            have HTL : Hid (tabTo s (k + 1) = tabTo s k) := Lib.hid (tabTo_dead hal)
            clear hal hyk
            go_wp2_with fail
            go_roundg (s.t.length - (k + 1))
            case measure => have := HGK.out; omega
            case rel =>
              have h1 := HO.out
              have h2 := HTL.out
              rw [← h2] at h1 ⊢
              exact ⟨k + 1, by go_num, rfl, by omega, F, A, cA, rfl, Lib.hid h1⟩
        · obtain rfl : k = s.t.length := by omega
          clear hlt
          have HT : Hid (Tab _ (.slice A (tabTo s s.t.length).length cA) (tabS s)) := Lib.hid HO.out.out.tab
          have H49 : Hid (Calls Try.prog 57 #[.int .i64 (g : Int), .slice A (tabTo s s.t.length).length cA, .int .i64 0] _ (StdPostB g (tabS s) 0 _)) := Lib.hid (std49_goodB _ _ g (tabS s) 0 HT.out HTS.out.1 (by have := HTS.out.1.n1; omega))
          go_wp2_with (first
            | (go_at_call 57; (refine H49.out.mono ?_); rintro E w5 ⟨⟨u5, rfl, ht5⟩, hb5⟩
               have HT5 := Lib.hid (ht5.mono HBK.out.size)
               have HB5 := Lib.hid (HBK.out.trans (hb5.mono HBK.out.size))
               clear ht5 hb5))
          go_ret
          exact ⟨_, rfl, HT5.out, HB5.out⟩
end Go.Proofs
namespace Go.Proofs
open Go.RowKit Go.Shelf Go.Proofs.Ct Go.Maps
theorem neq_nil (w : World) : (binOp .neq 20 .nilIface .nilIface).run Try.prog w = .ok (.bool false) w := by kernel_rfl
structure ResC (q : Nat) (w : World) (v : Value) (a b c e : Int) : Prop where
  c0 : w.cell? ⟨q, 0, none⟩ = some v
  c1 : w.cell? ⟨q + 1, 0, none⟩ = some (.int .i64 a)
  c2 : w.cell? ⟨q + 1, 1, none⟩ = some (.int .i64 b)
  c3 : w.cell? ⟨q + 1, 2, none⟩ = some (.int .i64 c)
  c4 : w.cell? ⟨q + 1 + 1, 0, none⟩ = some (.int .i64 e)
  f0 : w.frozen? ⟨q, 0, none⟩ = false
  f1 : w.frozen? ⟨q + 1, 0, none⟩ = false
  f2 : w.frozen? ⟨q + 1, 1, none⟩ = false
  f3 : w.frozen? ⟨q + 1, 2, none⟩ = false
  f4 : w.frozen? ⟨q + 1 + 1, 0, none⟩ = false
theorem ResC.lt {q : Nat} {w : World} {v : Value} {a b c e : Int} (h : ResC q w v a b c e) : q + 1 + 1 < w.heap.size := World.block_lt_of_cell? w _ h.c4
theorem ResC.below {q : Nat} {w w' : World} {v : Value} {a b c e : Int} (h : ResC q w v a b c e) {B : Nat} (hq : q + 1 + 1 < B) (hb : Below B w w') : ResC q w' v a b c e :=
  ⟨(hb.cell (p := ⟨q, 0, none⟩) (by show q < B; omega)).trans h.c0, (hb.cell (p := ⟨q + 1, 0, none⟩) (by show q + 1 < B; omega)).trans h.c1, (hb.cell (p := ⟨q + 1, 1, none⟩) (by show q + 1 < B; omega)).trans h.c2, (hb.cell (p := ⟨q + 1, 2, none⟩) (by show q + 1 < B; omega)).trans h.c3, (hb.cell (p := ⟨q + 1 + 1, 0, none⟩) hq).trans h.c4,
   (hb.frozen (p := ⟨q, 0, none⟩) (by show q < B; omega)).trans h.f0, (hb.frozen (p := ⟨q + 1, 0, none⟩) (by show q + 1 < B; omega)).trans h.f1, (hb.frozen (p := ⟨q + 1, 1, none⟩) (by show q + 1 < B; omega)).trans h.f2, (hb.frozen (p := ⟨q + 1, 2, none⟩) (by show q + 1 < B; omega)).trans h.f3, (hb.frozen (p := ⟨q + 1 + 1, 0, none⟩) hq).trans h.f4⟩
def setR (q : Nat) (w : World) (v : Value) (a b c e : Int) : World := ((((w.setCell ⟨q, 0, none⟩ v).setCell ⟨q + 1, 0, none⟩ (.int .i64 a)).setCell ⟨q + 1, 1, none⟩ (.int .i64 b)).setCell ⟨q + 1, 2, none⟩ (.int .i64 c)).setCell ⟨q + 1 + 1, 0, none⟩ (.int .i64 e)
theorem cell_set {w : World} {a p : Addr} {u : Value} (h : w.cell? p = some u) (v : Value) : (w.setCell a v).cell? p = some (if a = p then v else u) := by
  split
  · rename_i e; subst e; exact World.cell?_setCell_same _ _ _ h
  · rename_i e; rw [World.cell?_setCell_other _ _ _ _ e]; exact h
theorem ResC.set {q : Nat} {w : World} {v : Value} {a b c e : Int} (h : ResC q w v a b c e) (v' : Value) (a' b' c' e' : Int) : ResC q (setR q w v' a' b' c' e') v' a' b' c' e' := by
  obtain ⟨c0, c1, c2, c3, c4, f0, f1, f2, f3, f4⟩ := h
  unfold setR
  refine ⟨(cell_set (cell_set (cell_set (cell_set (cell_set c0 _) _) _) _) _).trans ?_, (cell_set (cell_set (cell_set (cell_set (cell_set c1 _) _) _) _) _).trans ?_, (cell_set (cell_set (cell_set (cell_set (cell_set c2 _) _) _) _) _).trans ?_, (cell_set (cell_set (cell_set (cell_set (cell_set c3 _) _) _) _) _).trans ?_, (cell_set (cell_set (cell_set (cell_set (cell_set c4 _) _) _) _) _).trans ?_, ?_, ?_, ?_, ?_, ?_⟩ <;> simp [f0, f1, f2, f3, f4]
theorem setR_below {B q : Nat} {w w' : World} (h : Below B w w') (hq : B ≤ q) (v : Value) (a b c e : Int) : Below B w (setR q w' v a b c e) :=
  ((((h.setCell (p := ⟨q, 0, none⟩) hq v).setCell (p := ⟨q + 1, 0, none⟩) (by show B ≤ q + 1; omega) _).setCell (p := ⟨q + 1, 1, none⟩) (by show B ≤ q + 1; omega) _).setCell (p := ⟨q + 1, 2, none⟩) (by show B ≤ q + 1; omega) _).setCell (p := ⟨q + 1 + 1, 0, none⟩) (by show B ≤ q + 1 + 1; omega) _
end Go.Proofs
namespace Go.Proofs
open Go.RowKit Go.Shelf Go.Proofs.Ct Go.Maps
def badArgs (g : Nat) (sub : List W) (limit : Int) : Bool := decide (100 < sub.length) || decide (4000 < sumTo sub sub.length) || (sub.any fun w => w.any (letBad g)) || decide (limit < 1) || decide (20000 < limit)
def enumE (g : Int) (rels sub : List W) (limit : Int) : Tb × (Int × Int) × Int :=
  if presE g rels ≠ 0 then ([], (0, 0), presE g rels) else
  if badArgs g.toNat sub limit = true then ([], (0, 0), 2) else
  match runS (2 * g.toNat) limit.toNat rels sub with
  | none => ([], (0, 0), 12)
  | some s => ((stdE g (tabS s) 0).1, ((s.t.length : Int), s.most), 0)
def EnumPost (g : Int) (rels sub : List W) (limit : Int) (w : World) (e : Ending) (w' : World) : Prop :=
  (∃ u, e = .returned (.tuple #[u, .agg #[.int .i64 (enumE g rels sub limit).2.1.1, .int .i64 (enumE g rels sub limit).2.1.2, .int .i64 0], .int .i64 (enumE g rels sub limit).2.2]) ∧ Tab w' u (enumE g rels sub limit).1) ∧ Below w.heap.size w w'
end Go.Proofs
