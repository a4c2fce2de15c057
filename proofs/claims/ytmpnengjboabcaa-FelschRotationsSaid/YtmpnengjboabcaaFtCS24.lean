/- (*looker).step; Lookahead, plainly: where there is room enough it is the plain procedure; What lookahead answers, plainly; the three strategies compared. -/
import Derived.Test.YtmpnengjboabcaaFtCS23
import Derived.Test.YtmpnengjboabcaaFtCS6
import Derived.Test.YtmpnengjboabcaaFtCS19
import Derived.Test.YtmpnengjboabcaaFtCS14
namespace Go.Proofs
open Go.RowKit Go.Shelf Go.Proofs.Ct Go.Maps
def WordsK (K : Nat → Prop) (base : Nat) (w : World) (v : Value) (l : List W) : Prop := ∃ w0, Tab w0 v l ∧ ∀ W, Keeps base K w W → Below w0.heap.size w0 W
section
variable {K : Nat → Prop} {base : Nat} {w : World} {v : Value} {l : List W}
theorem WordsK.tab (h : WordsK K base w v l) {W : World} (hb : Keeps base K w W) : Tab W v l := by
  obtain ⟨w0, ht, h0⟩ := h
  exact kept_tab.below ht (h0 W hb)
theorem WordsK.at_ (h : WordsK K base w v l) {k : Nat} (hk : k < l.length) : ∃ b o c u, v = .slice (some ⟨b, o, none⟩) l.length c ∧ ∀ W, Keeps base K w W → W.cell? ⟨b, o + k, none⟩ = some u ∧ IntsAt W u (l.getD k []) := by
  obtain ⟨w0, ht, h0⟩ := h
  obtain ⟨A, c, rfl, -, -, h3⟩ := ht.open_
  obtain ⟨b, o, rfl, h4⟩ := h3 (by omega)
  obtain ⟨u, hu, hI⟩ := h4 k hk
  exact ⟨b, o, c, u, rfl, fun W hW => ⟨((h0 W hW).cell (p := ⟨b, o + k, none⟩) (World.block_lt_of_cell? w0 _ hu)).trans hu, kept_ints.below hI (h0 W hW)⟩⟩
theorem WordsK.later (h : WordsK K base w v l) {w' : World} (hb : Keeps base K w w') : WordsK K base w' v l := by
  obtain ⟨w0, ht, h0⟩ := h
  exact ⟨w0, ht, fun W hW => h0 W (hb.trans hW)⟩
end
theorem LkF.lose {K : Nat → Prop} {vr : Value} {g base b m lim : Nat} {w : World} {x : LS} (h : LkF K vr g base b m lim w x) (l : Bool) : LkF K vr g base b m lim (w.setCell ⟨b, 10, none⟩ (.bool l)) { x with lost := l } ∧ Keeps base K w (w.setCell ⟨b, 10, none⟩ (.bool l)) := by
  obtain ⟨k, ⟨bl, cs, hs⟩, h1⟩ := h
  obtain ⟨h2, h3⟩ := hs.setEx ⟨by decide, by decide, by decide⟩ (k := 2) (by simp [exL]) (.bool l)
  exact ⟨⟨k, ⟨bl, cs, h2⟩, h1⟩, h3⟩
theorem LkF.goto {K : Nat → Prop} {vr : Value} {g base b m lim : Nat} {w : World} {x : LS} (h : LkF K vr g base b m lim w x) (r : Nat) : LkF K vr g base b m lim (w.setCell ⟨b, 9, none⟩ (.int .i64 (r : Int))) { x with r := r } ∧ Keeps base K w (w.setCell ⟨b, 9, none⟩ (.int .i64 (r : Int))) := by
  obtain ⟨k, ⟨bl, cs, hs⟩, h1⟩ := h
  obtain ⟨h2, h3⟩ := hs.setEx ⟨by decide, by decide, by decide⟩ (k := 1) (by simp [exL]) (.int .i64 (r : Int))
  exact ⟨⟨k, ⟨bl, cs, h2⟩, h1⟩, h3⟩
theorem LkF.alive {K : Nat → Prop} {vr : Value} {g base b m lim : Nat} {w : World} {x : LS} (h : LkF K vr g base b m lim w x) (hx : x.r < x.s.t.length) : Calls Try.prog 198 #[.pointer (some ⟨b, 0, none⟩), .int .i64 (x.r : Int)] w fun e w' => e = .returned (.bool (decide (x.s.rp x.r = x.r))) ∧ w' = w := by
  obtain ⟨k, ⟨bl, cs, hs⟩, -⟩ := h
  exact alive198_any K 176 _ bl cs base b m lim x.r w ⟨x.s, k⟩ hs hx
theorem LkF.look {K : Nat → Prop} {vr : Value} {g base b m lim : Nat} {w : World} {x : LS} (h : LkF K vr g base b m lim w x) : (∃ A c, w.cell? ⟨b, 2, none⟩ = some (.slice A x.s.t.length c)) ∧ w.cell? ⟨b, 7, none⟩ = some (.int .i64 x.s.most) ∧ w.cell? ⟨b, 8, none⟩ = some vr ∧ w.cell? ⟨b, 9, none⟩ = some (.int .i64 (x.r : Int)) ∧ w.cell? ⟨b, 10, none⟩ = some (.bool x.lost) ∧ w.cell? ⟨b, 11, none⟩ = some (.int .i64 (x.removed : Int)) ∧ w.cell? ⟨b, 12, none⟩ = some (.int .i64 (x.looks : Int)) ∧ (∀ k, w.frozen? ⟨b, k, none⟩ = false) ∧ x.s.t.length ≤ 1000 := by
  obtain ⟨k, hst, hfi, -⟩ := h
  obtain ⟨-, -, h2, -, h8, h9, h10, h11, h12, hf⟩ := hst.look
  exact ⟨h2, hst.live.2, h8, h9, h10, h11, h12, hf, hfi.n⟩
set_option maxRecDepth 100000 in
set_option maxHeartbeats 4000000 in
theorem step157_any (K : Nat → Prop) (vr : Value) (g m base b lim : Nat) (hm : m = 2 * g) (w : World) (x : LS) (rels : List W) (hS : LkF K vr g base b m lim w x) (hG : LGood g lim x) (hx : x.r < x.s.t.length) (hbw : base ≤ w.heap.size) (hlim : lim ≤ 1000) (hrl : rels.length ≤ 100000)
    (hv : WordsK K base w vr rels) (hr : ∀ j, LOk g (rels.getD j [])) (hwr : ∀ j, (rels.getD j []).length ≤ 1000000) :
    Calls Try.prog 157 #[.pointer (some ⟨b, 0, none⟩)] w fun e w' => ((∃ y, stepL m lim rels x = some y ∧ e = .returned (.tuple #[]) ∧ LkF K vr g base b m lim w' y) ∨ (stepL m lim rels x = none ∧ e = .panicked fullF)) ∧ Keeps base K w w' := by
  obtain ⟨Ar, cr, rfl⟩ := Tab.form (hv.tab (Keeps.refl _ _ _))
  have HFQ : Hid (stepL m lim rels x = ((optTo (relL m lim rels) rels.length (clrL x)).bind (colsL m lim rels)).map nextL) := Lib.hid rfl
  have HTO : Hid (∀ k y, k ≤ rels.length → optTo (relL m lim rels) k (clrL x) = some y → LGood g lim y ∧ (y.lost = false → y.r < y.s.t.length)) := Lib.hid fun k y hk e => by
    rw [hm] at e
    have h := relL_to (sub := []) (fun j _ => hr j) (fun j hj => absurd hj (by simp)) hG.clr (fun _ => hx) hk e
    exact ⟨h.1.good, h.1.lt⟩
  have HCO : Hid (∀ y z, LGood g lim y → (y.lost = false → y.r < y.s.t.length) → colsL m lim rels y = some z → LGood g lim z ∧ (z.lost = false → z.r < z.s.t.length)) := Lib.hid fun y z hy hl e => by
    rw [hm] at e
    have h := colsL_to (sub := []) (fun j _ => hr j) (fun j hj => absurd hj (by simp)) hy hl e
    exact ⟨h.1.good, h.1.lt⟩
  have HLOSE := Lib.hid (hS.lose false)
  obtain ⟨-, -, c8, -, c10, -, -, cf, -⟩ := hS.look
  have hf10 := cf 10
  have HG0 : Hid (LGood g lim (clrL x) ∧ ((clrL x).lost = false → (clrL x).r < (clrL x).s.t.length)) := Lib.hid ⟨hG.clr, fun _ => hx⟩
  generalize stepL m lim rels x = F at *
  have HBW := Lib.hid hbw
  have HVV := Lib.hid hv
  have HRR := Lib.hid hr
  have HWR := Lib.hid hwr
  have HM := Lib.hid hm
  have hrl0 : (0 : Int) ≤ (rels.length : Int) := Int.natCast_nonneg _
  have hrl1 : (rels.length : Int) ≤ 100000 := by omega
  clear hG hS hbw hv hr hwr hm cf hx
  go_enter Try.func157, Try.ntmps157
  go_wp2_with fail
  have hst1 := HLOSE.out
  generalize w.setCell ⟨b, 10, none⟩ (.bool false) = w1 at *
  have HS1 : Hid (LkF K (.slice Ar rels.length cr) g base b m lim w1 (clrL x)) := Lib.hid hst1.1
  have HK1 := Lib.hid hst1.2
  clear hst1 HLOSE c10 hf10 c8
  go_loopw [12] (fun i wr => ∃ (k : Nat) (y : LS), i = .int .i64 (k : Int) ∧ k ≤ rels.length ∧ Hid (optTo (relL m lim rels) k (clrL x) = some y ∧ LkF K (.slice Ar rels.length cr) g base b m lim wr y ∧ LGood g lim y ∧ (y.lost = false → y.r < y.s.t.length)) ∧ Hid (Keeps base K w wr)) (fun i _ => rels.length - (intOf i).toNat)
  case atStart => exact ⟨0, clrL x, rfl, Nat.zero_le _, Lib.hid ⟨rfl, HS1.out, HG0.out.1, HG0.out.2⟩, HK1⟩
  case round =>
    clear HS1 HK1 HG0
    obtain ⟨k, y, rfl, hk, HI, HB⟩ := hrel
    have hk0 : (0 : Int) ≤ (k : Int) := Int.natCast_nonneg _
    obtain ⟨⟨A2, cr2, c2⟩, -, c8, c9, c10, -, -, cf, hn1⟩ := HI.out.2.1.look
    have hr0 : (0 : Int) ≤ (y.r : Int) := Int.natCast_nonneg _
    have HALL : Hid (y.lost = false → ∀ q, Calls Try.prog 198 #[.pointer (some ⟨b, 0, none⟩), .int .i64 (y.r : Int)] (wr.drewN q) fun e w' => e = .returned (.bool (decide (y.s.rp y.r = y.r))) ∧ wr.drewN q = w') := Lib.hid fun hl q => ((HI.out.2.1.below (below_drewN (Below.refl _ _) q)).alive (HI.out.2.2.2 hl)).mono fun e w' ⟨h1, h2⟩ => ⟨h1, h2.symm⟩
    have HKD : Hid (∀ q, LkF K (.slice Ar rels.length cr) g base b m lim (wr.drewN q) y ∧ Keeps base K w (wr.drewN q)) := Lib.hid fun q => ⟨HI.out.2.1.below (below_drewN (Below.refl _ _) q), HB.out.trans ⟨below_drewN (Below.refl _ _) _, fun _ _ => rfl⟩⟩
    by_cases hlt : k < rels.length
    · have hltI : (k : Int) < (rels.length : Int) := by omega
      obtain ⟨bs, os, cr2, u, hvr, hcell⟩ := HVV.out.at_ hlt
      cases hvr
      obtain ⟨hu0, hI0⟩ := hcell wr HB.out
      obtain ⟨Au, cu, rfl, -, -, -⟩ := hI0.open_
      have HCELL := Lib.hid hcell
      clear hcell hI0
      have HOP : Hid (optTo (relL m lim rels) (k + 1) (clrL x) = relL m lim rels k y) := Lib.hid (by rw [optTo_succ, HI.out.1]; rfl)
      cases hlo : y.lost with
      | true =>
        rw [hlo] at c10
        have HOP2 : Hid (optTo (relL m lim rels) (k + 1) (clrL x) = some y) := Lib.hid (by rw [HOP.out]; unfold relL; rw [if_neg (by rw [hlo]; simp)])
        clear HALL
        generalize (rels.getD k []).length = lu at *
        go_wp2_with fail
        go_quiet (fail)
        go_wp2_with fail
        go_roundw
        case rel => exact ⟨k + 1, y, by go_num, by omega, Lib.hid ⟨HOP2.out, (HKD.out _).1, HI.out.2.2⟩, Lib.hid (HKD.out _).2⟩
        case measure => simp [intOf]; omega
      | false =>
        rw [hlo] at c10
        have HAL := Lib.hid (HALL.out hlo)
        have HLT := Lib.hid (HI.out.2.2.2 hlo)
        clear HALL
        by_cases hal : y.s.rp y.r = y.r
        · rw [decide_eq_true hal] at HAL
          have HRL : Hid (relL m lim rels k y = Ct.fillL m lim rels y (rels.getD k [])) := Lib.hid (by unfold relL; rw [if_pos ⟨hlo, hal⟩])
          have HFI := Lib.hid (fun q => fill156_any K (.slice (some ⟨bs, os, none⟩) rels.length cr) g m base b lim HM.out (wr.drewN q) y rels (.slice Au (rels.getD k []).length cu) (rels.getD k []) (HKD.out q).1 HI.out.2.2.1 (fun _ => ⟨HLT.out, hal⟩) (Nat.le_trans HBW.out (HKD.out q).2.size) hlim (fun W hW => HVV.out.tab ((HKD.out q).2.trans hW)) HRR.out HWR.out (fun W hW => (HCELL.out W ((HKD.out q).2.trans hW)).2) (HRR.out k) (HWR.out k))
          cases hfl : Ct.fillL m lim rels y (rels.getD k []) with
          | none =>
            rw [hfl] at HFI HRL
            have HE : Hid (F = none) := Lib.hid (by rw [HFQ.out, optTo_none (k := k + 1) (by rw [HOP.out, HRL.out]) rels.length (by omega)]; rfl)
            have HFP : Hid (∀ q, Calls Try.prog 156 #[.pointer (some ⟨b, 0, none⟩), .slice Au (rels.getD k []).length cu] (wr.drewN q) fun e w' => e = .panicked fullF ∧ Keeps base K (wr.drewN q) w') := Lib.hid fun q => (HFI.out q).mono fun e w' ⟨h1, h2⟩ => by
              rcases h1 with ⟨y1, h1, -⟩ | ⟨-, h1⟩
              · cases h1
              · exact ⟨h1, h2⟩
            clear HFI hfl hal
            generalize (rels.getD k []).length = lu at *
            go_wp2_with fail
            go_quiet ((go_at_call 198; exact quiet_left (HAL.out _)))
            go_wp2_with (go_at_call 156; (with_reducible refine (HFP.out _).mono ?_); rintro E w2 ⟨rfl, hb2⟩; have HB2 := Lib.hid ((HKD.out _).2.trans hb2); clear hb2)
            exact ⟨rfl, .inr ⟨HE.out, rfl⟩, HB2.out⟩
          | some y1 =>
            rw [hfl] at HFI HRL
            have HOP2 : Hid (optTo (relL m lim rels) (k + 1) (clrL x) = some y1) := Lib.hid (by rw [HOP.out, HRL.out])
            have HN := Lib.hid (HTO.out (k + 1) y1 (by omega) HOP2.out)
            have HFP : Hid (∀ q, Calls Try.prog 156 #[.pointer (some ⟨b, 0, none⟩), .slice Au (rels.getD k []).length cu] (wr.drewN q) fun e w' => e = .returned (.tuple #[]) ∧ LkF K (.slice (some ⟨bs, os, none⟩) rels.length cr) g base b m lim w' y1 ∧ Keeps base K (wr.drewN q) w') := Lib.hid fun q => (HFI.out q).mono fun e w' ⟨h1, h2⟩ => by
              rcases h1 with ⟨y2, h1, h3, h4⟩ | ⟨h1, -⟩
              · cases h1
                exact ⟨h3, h4, h2⟩
              · cases h1
            clear HFI hfl hal
            generalize (rels.getD k []).length = lu at *
            go_wp2_with fail
            go_quiet ((go_at_call 198; exact quiet_left (HAL.out _)))
            go_wp2_with (go_at_call 156; (with_reducible refine (HFP.out _).mono ?_); rintro E w2 ⟨rfl, hs2, hb2⟩; have HS2 := Lib.hid hs2; have HB2 := Lib.hid ((HKD.out _).2.trans hb2); clear hs2 hb2)
            go_roundw
            case rel => exact ⟨k + 1, y1, by go_num, by omega, Lib.hid ⟨HOP2.out, HS2.out, HN.out⟩, HB2⟩
            case measure => simp [intOf]; omega
        · rw [decide_eq_false hal] at HAL
          have HOP2 : Hid (optTo (relL m lim rels) (k + 1) (clrL x) = some y) := Lib.hid (by rw [HOP.out]; unfold relL; rw [if_neg (fun h => hal h.2)])
          clear hal
          generalize (rels.getD k []).length = lu at *
          go_wp2_with fail
          go_quiet ((go_at_call 198; exact quiet_left (HAL.out _)))
          go_wp2_with fail
          go_roundw
          case rel => exact ⟨k + 1, y, by go_num, by omega, Lib.hid ⟨HOP2.out, (HKD.out _).1, HI.out.2.2⟩, Lib.hid (HKD.out _).2⟩
          case measure => simp [intOf]; omega
    · obtain rfl : rels.length = k := by omega
      clear hlt hk
      have HFR : Hid (F = (colsL m lim rels y).map nextL) := Lib.hid (by rw [HFQ.out, HI.out.1]; rfl)
      cases hlo : y.lost with
      | true =>
        rw [hlo] at c10
        have HE : Hid (F = some y) := Lib.hid (by rw [HFR.out]; unfold colsL nextL; rw [if_neg (by rw [hlo]; simp)]; simp [hlo])
        clear HALL
        go_wp2_with fail
        go_quiet (fail)
        go_wp2_with fail
        go_end0
        exact ⟨.inl ⟨y, HE.out, (by first | rfl | trivial), (HKD.out _).1⟩, (HKD.out _).2⟩
      | false =>
        rw [hlo] at c10
        have HAL := Lib.hid (HALL.out hlo)
        have HLT := Lib.hid (HI.out.2.2.2 hlo)
        have hrI : (y.r : Int) ≤ 1000 := by have := HLT.out; omega
        clear HALL
        by_cases hal : y.s.rp y.r = y.r
        · rw [decide_eq_true hal] at HAL
          have HCL : Hid (colsL m lim rels y = colL m lim rels y 0) := Lib.hid (by unfold colsL; rw [if_pos ⟨hlo, hal⟩])
          have HFI := Lib.hid (fun q => columns202_any K (.slice Ar rels.length cr) g m base b lim HM.out (wr.drewN q) y rels (HKD.out q).1 HI.out.2.2.1 (fun _ => ⟨HLT.out, hal⟩) (Nat.le_trans HBW.out (HKD.out q).2.size) hlim (fun W hW => HVV.out.tab ((HKD.out q).2.trans hW)) HRR.out HWR.out)
          cases hfl : colL m lim rels y 0 with
          | none =>
            rw [hfl] at HFI HCL
            have HE : Hid (F = none) := Lib.hid (by rw [HFR.out, HCL.out]; rfl)
            have HFP : Hid (∀ q, Calls Try.prog 202 #[.pointer (some ⟨b, 0, none⟩)] (wr.drewN q) fun e w' => e = .panicked fullF ∧ Keeps base K (wr.drewN q) w') := Lib.hid fun q => (HFI.out q).mono fun e w' ⟨h1, h2⟩ => by
              rcases h1 with ⟨y1, h1, -⟩ | ⟨-, h1⟩
              · cases h1
              · exact ⟨h1, h2⟩
            clear HFI hfl hal
            go_wp2_with fail
            go_quiet ((go_at_call 198; exact quiet_left (HAL.out _)))
            go_wp2_with (go_at_call 202; (with_reducible refine (HFP.out _).mono ?_); rintro E w2 ⟨rfl, hb2⟩; have HB2 := Lib.hid ((HKD.out _).2.trans hb2); clear hb2)
            exact ⟨rfl, .inr ⟨HE.out, rfl⟩, HB2.out⟩
          | some z =>
            rw [hfl] at HFI HCL
            have HFZ : Hid (F = some (nextL z)) := Lib.hid (by rw [HFR.out, HCL.out]; rfl)
            have HZ := Lib.hid (HCO.out y z HI.out.2.2.1 HI.out.2.2.2 HCL.out)
            have HFP : Hid (∀ q, Calls Try.prog 202 #[.pointer (some ⟨b, 0, none⟩)] (wr.drewN q) fun e w' => e = .returned (.tuple #[]) ∧ LkF K (.slice Ar rels.length cr) g base b m lim w' z ∧ Keeps base K (wr.drewN q) w') := Lib.hid fun q => (HFI.out q).mono fun e w' ⟨h1, h2⟩ => by
              rcases h1 with ⟨y2, h1, h3, h4⟩ | ⟨h1, -⟩
              · cases h1
                exact ⟨h3, h4, h2⟩
              · cases h1
            clear HFI hfl hal
            cases hzl : z.lost with
            | true =>
              have HE : Hid (F = some z) := Lib.hid (by rw [HFZ.out]; unfold nextL; rw [if_pos hzl])
              go_wp2_with fail
              go_quiet ((go_at_call 198; exact quiet_left (HAL.out _)))
              go_wp2_with (go_at_call 202; (with_reducible refine (HFP.out _).mono ?_); rintro E w2 ⟨rfl, hs2, hb2⟩
                           have e10 := hs2.look.2.2.2.2.1
                           rw [hzl] at e10
                           have HS2 := Lib.hid hs2; have HB2 := Lib.hid ((HKD.out _).2.trans hb2); clear hs2 hb2)
              go_end0
              exact ⟨.inl ⟨z, HE.out, (by first | rfl | trivial), HS2.out⟩, HB2.out⟩
            | false =>
              have HE : Hid (F = some { z with r := z.r + 1 }) := Lib.hid (by rw [HFZ.out]; unfold nextL; rw [if_neg (by rw [hzl]; simp)])
              have hz0 : (0 : Int) ≤ (z.r : Int) := Int.natCast_nonneg _
              have HZL : Hid (z.r < z.s.t.length) := Lib.hid (HZ.out.2 hzl)
              go_wp2_with fail
              go_quiet ((go_at_call 198; exact quiet_left (HAL.out _)))
              go_wp2_with (go_at_call 202; (with_reducible refine (HFP.out _).mono ?_); rintro E w2 ⟨rfl, hs2, hb2⟩
                           obtain ⟨-, -, -, e9, e10, -, -, ef, e13⟩ := hs2.look
                           have ef9 := ef 9
                           rw [hzl] at e10
                           have hz1 : (z.r : Int) ≤ 1000 := by have := HZL.out; omega
                           have HS2 := Lib.hid hs2; have HB2 := Lib.hid ((HKD.out _).2.trans hb2); clear hs2 hb2 ef)
              go_end0
              have h9 := HS2.out.goto (z.r + 1)
              exact ⟨.inl ⟨_, HE.out, (by first | rfl | trivial), h9.1⟩, HB2.out.trans h9.2⟩
        · rw [decide_eq_false hal] at HAL
          have HE : Hid (F = some { y with r := y.r + 1 }) := Lib.hid (by rw [HFR.out]; unfold colsL nextL; rw [if_neg (fun h => hal h.2)]; simp [hlo])
          have cf9 := cf 9
          have HGO := Lib.hid (fun q => (HKD.out q).1.goto (y.r + 1))
          clear hal cf
          go_wp2_with fail
          go_quiet ((go_at_call 198; exact quiet_left (HAL.out _)))
          go_wp2_with fail
          go_end0
          exact ⟨.inl ⟨_, HE.out, (by first | rfl | trivial), (HGO.out _).1⟩, (HKD.out _).2.trans (HGO.out _).2⟩
end Go.Proofs
namespace Go.Proofs.Ct
section
variable {g lim : Nat} {rels sub : List W} {x y z : LS}
def setR (x : LS) (r : Nat) (s : St) : LS := ⟨s, r, false, x.removed, x.looks⟩
end
end Go.Proofs.Ct
namespace Go.Proofs
open Go.RowKit Go.Shelf Go.Proofs.Ct Go.Maps
def lookE (g : Int) (rels sub : List W) (limit : Int) : Tb × (Int × Int × Int) × Int :=
  if givenE g rels sub limit ≠ 0 then ([], (0, 0, 0), givenE g rels sub limit) else
  match lookS (2 * g.toNat) limit.toNat rels sub with
  | none => ([], (0, 0, 0), 12)
  | some y => ((stdE g (tabS y.s) 0).1, (((y.s.t.length + y.removed : Nat) : Int), y.s.most, (y.looks : Int)), 0)
theorem lookE_bad {g : Int} {rels sub : List W} {limit : Int} (h : givenE g rels sub limit ≠ 0) : lookE g rels sub limit = ([], (0, 0, 0), givenE g rels sub limit) := if_pos h
theorem lookE_full {g lim : Nat} {rels sub : List W} (h : givenE g rels sub lim = 0) (h3 : lookS (2 * g) lim rels sub = none) : lookE g rels sub lim = ([], (0, 0, 0), 12) := by
  unfold lookE; rw [if_neg (by rw [h]; simp), Int.toNat_natCast, Int.toNat_natCast, h3]
theorem lookE_some {g lim : Nat} {rels sub : List W} {y : LS} (h : givenE g rels sub lim = 0) (h3 : lookS (2 * g) lim rels sub = some y) : lookE g rels sub lim = ((stdE g (tabS y.s) 0).1, (((y.s.t.length + y.removed : Nat) : Int), y.s.most, (y.looks : Int)), 0) := by
  unfold lookE; rw [if_neg (by rw [h]; simp), Int.toNat_natCast, Int.toNat_natCast, h3]
section
variable {g lim : Nat} {rels sub : List W}
end
end Go.Proofs
