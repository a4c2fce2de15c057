/- The reference of lookahead: room. -/
import Derived.Test.YtmpnengjboabcaaFlCS25
namespace Go.Proofs
open Go.RowKit Go.Shelf Go.Proofs.Ct Go.Maps
set_option maxRecDepth 100000 in
set_option maxHeartbeats 1000000 in
theorem room204_full (vr : Value) (g m base b bx lim : Nat) (hm : m = 2 * g) (hg1 : 1 ≤ g) (hg16 : g ≤ 16) (w : World) (x : LS) (rels : List W) (hS : LkR vr g base b bx lim w x) (hG : LGood g lim x) (hbw : base ≤ w.heap.size) (hx : x.r < x.s.t.length) (hlo : x.lost = false) (hl : lim ≤ x.s.t.length) (h50 : x.looks < 50) (hrl : rels.length ≤ 100000)
    (hv : Words base w vr rels) (hr : ∀ j, LOk g (rels.getD j [])) :
    Calls Try.prog 204 #[.pointer (some ⟨bx, 0, none⟩)] w fun e w' => ((∃ y, roomL m rels x = some y ∧ e = .returned (.bool true) ∧ LkR vr g base b bx lim w' y) ∨ (roomL m rels x = none ∧ e = .returned (.bool false))) ∧ Below base w w' := by
  obtain ⟨Ar, cr, rfl⟩ := Tab.form (hv.tab (Below.refl _ _))
  obtain ⟨hst, hbb, hbx, hrm, hn3⟩ := hS
  have hrL : rL x = (x.r : Int) := if_neg (by rw [hlo]; simp)
  rw [hrL] at hbx
  obtain ⟨x0, -, -, -, -, x5, xf⟩ := hbx.cells
  have xf5 := xf 5
  obtain ⟨⟨A, c, d0⟩, d3, -, -, -, hb0, hblt⟩ := hst.top
  have hlI : ¬ (x.s.t.length : Int) < (lim : Int) := by omega
  have hn0 : (0 : Int) ≤ (x.s.t.length : Int) := Int.natCast_nonneg _
  have hnm : (x.s.t.length : Int) ≤ 1000 := by omega
  have hlk0 : (0 : Int) ≤ (x.looks : Int) := Int.natCast_nonneg _
  have hlk1 : (x.looks : Int) < 50 := by omega
  have d50 : ((x.looks : Int) == 50) = false := by rw [beq_eq_false_iff_ne]; omega
  have hrl0 : (0 : Int) ≤ (rels.length : Int) := Int.natCast_nonneg _
  have hrl1 : (rels.length : Int) ≤ 100000 := by omega
  have HRL : Hid (roomL m rels x = if (lkTo m rels x.s.t.length x.s).live = x.s.t.length then none else some ⟨sqS (lkTo m rels x.s.t.length x.s), num (lkTo m rels x.s.t.length x.s) x.r, decide ((lkTo m rels x.s.t.length x.s).rp x.r ≠ x.r), x.removed + (x.s.t.length - (liv (lkTo m rels x.s.t.length x.s)).length), x.looks + 1⟩) := Lib.hid (by unfold roomL; rw [if_neg (by omega)])
  have HLK : Hid (∀ k, k ≤ x.s.t.length → Ct.Rest g (lkTo m rels k x.s) ∧ (lkTo m rels k x.s).t.length = x.s.t.length) := Lib.hid fun k hk => by
    rw [hm]
    obtain ⟨a, -, b, -⟩ := lkTo_F (rels := rels) (fun j _ => hr j) hG.good.rest hk
    exact ⟨a, b⟩
  have HSN : Hid (∀ (s : St) (r : Nat), Ct.Rest g s → r < s.t.length → ∀ j, j ≤ rels.length → Ct.Rest g (scnTo m r rels j s) ∧ (scnTo m r rels j s).t.length = s.t.length) := Lib.hid fun s r hs hrn j hj => by
    rw [hm]
    obtain ⟨a, -, b, -⟩ := scnTo_F (rels := rels) (fun j _ => hr j) hs hrn hj
    exact ⟨a, b⟩
  have H5 : Hid (∀ q, StR base b lim ((w.drewN q).setCell ⟨bx, 5, none⟩ (.int .i64 ((x.looks : Int) + 1))) x.s ∧ BoxL bx b g (.slice Ar rels.length cr) (x.r : Int) x.removed ((x.looks : Int) + 1) ((w.drewN q).setCell ⟨bx, 5, none⟩ (.int .i64 ((x.looks : Int) + 1))) ∧ Below base w ((w.drewN q).setCell ⟨bx, 5, none⟩ (.int .i64 ((x.looks : Int) + 1)))) := Lib.hid fun q => by
    have h1 := below_drewN (Below.refl w.heap.size w) q
    have hbq := hbx.below h1
    exact ⟨(hst.below h1).other hbq.box (by decide) 5 _, hbq.upd5 _, (h1.mono hbw).setCell (p := ⟨bx, 5, none⟩) hbb _⟩
  have HM := Lib.hid hm
  have HV := Lib.hid hv
  have HR := Lib.hid hr
  have HBW := Lib.hid hbw
  have HBB : Hid (base ≤ b ∧ base ≤ bx) := Lib.hid ⟨hb0, hbb⟩
  have HRM : Hid (x.removed ≤ 1000 * x.looks ∧ x.looks < 50) := Lib.hid ⟨hrm, h50⟩
  have HN1 : Hid (1 ≤ x.s.t.length) := Lib.hid hG.good.n1
  clear hst hbx hG hv hr hm hbw xf hrL hrm hb0 hbb hblt
  go_enter Try.func204, Try.ntmps204
  go_wp2_with fail
  go_quiet (fail)
  go_wp2_with fail
  obtain ⟨hs5, hx5, hb5⟩ := H5.out nq
  generalize (w.drewN nq).setCell ⟨bx, 5, none⟩ (.int .i64 ((x.looks : Int) + 1)) = w5 at *
  have HS5 := Lib.hid hs5
  have HX5 := Lib.hid hx5
  have HB5 := Lib.hid hb5
  clear H5 x0 x5 xf5 d0 d3 hs5 hx5 hb5
  generalize hnn : x.s.t.length = n at *
  rw [show decide (n < lim) = false from decide_eq_false (by omega)]
  go_loopw [4] (fun i wr => ∃ r : Nat, i = .int .i64 (r : Int) ∧ r ≤ n ∧ Hid (StR base b lim wr (lkTo m rels r x.s)) ∧ Hid (Kf base w5 wr)) (fun i _ => n - (intOf i).toNat)
  case atStart => exact ⟨0, rfl, Nat.zero_le _, HS5, Lib.hid (Kf.refl _ _)⟩
  case round =>
    clear HS5
    obtain ⟨r, rfl, hrn, HS, HK⟩ := hrel
    have hr0 : (0 : Int) ≤ (r : Int) := Int.natCast_nonneg _
    obtain ⟨⟨A, c, d0⟩, d3, d4, -⟩ := HS.out.top
    have hlr := HLK.out r hrn
    rw [hlr.2] at d0
    have HX := Lib.hid (HX5.out.kf HK.out)
    by_cases hlt : r < n
    · have hrI : (r : Int) < (n : Int) := by omega
      have HLR := Lib.hid hlr
      have HSC0 : Hid (lkTo m rels (r + 1) x.s = scnTo m r rels rels.length (lkTo m rels r x.s)) := Lib.hid rfl
      clear d3 d4 hlr
      generalize lkTo m rels r x.s = s2 at *
      go_wp2_with fail
      go_loopw [5] (fun i wx => ∃ j : Nat, i = .int .i64 (j : Int) ∧ j ≤ rels.length ∧ Hid (StR base b lim wx (scnTo m r rels j s2)) ∧ Hid (Kf base w5 wx)) (fun i _ => rels.length - (intOf i).toNat)
      case atStart => exact ⟨0, rfl, Nat.zero_le _, HS, HK⟩
      case round =>
        clear HS HK HX d0
        obtain ⟨j, rfl, hj, HS, HK⟩ := hrel
        have hj0 : (0 : Int) ≤ (j : Int) := Int.natCast_nonneg _
        have HSJ := Lib.hid (HSN.out s2 r HLR.out.1 (by rw [HLR.out.2]; exact hlt) j hj)
        have HX := Lib.hid (HX5.out.kf HK.out)
        obtain ⟨x0, x1, x2, x3, x4, x5, xf⟩ := HX.out.cells
        have hln : (scnTo m r rels j s2).t.length = n := HSJ.out.2.trans HLR.out.2
        obtain ⟨gp, cp, y, p1, p2, p3, py⟩ := HS.out.liveR (r := r) (by rw [hln]; exact hlt)
        rw [hln] at p1
        clear xf hln
        by_cases hjl : j < rels.length
        · have hjI : (j : Int) < (rels.length : Int) := by omega
          obtain ⟨bs, os, cr2, u, hvr, hcell⟩ := HV.out.at_ hjl
          cases hvr
          have hB6 : Below base w wr := HB5.out.trans HK.out.1
          obtain ⟨hu0, hI0⟩ := hcell wr hB6
          by_cases hal : (scnTo m r rels j s2).rp r = r
          · rw [decide_eq_true hal] at p3
            have HNX : Hid (scnTo m r rels (j + 1) s2 = (scanS m (scnTo m r rels j s2) r (rels.getD j [])).1) := Lib.hid (scnTo_succ hal)
            have hsc := scan150_any g m base b lim r HM.out hg16 wr (scnTo m r rels j s2) u (rels.getD j []) HSJ.out.1 HS.out (Nat.le_trans HBW.out hB6.size) (by rw [HSJ.out.2, HLR.out.2]; omega) hI0 (HR.out j) (by rw [HSJ.out.2, HLR.out.2]; exact hlt) hal
            obtain ⟨ov, hov⟩ : ∃ ov, ov = openR (outM (scnTo m r rels j s2) r (rels.getD j [])) := ⟨_, rfl⟩
            rw [← hov] at hsc
            have HSC : Hid (Calls Try.prog 203 #[.pointer (some ⟨b, 0, none⟩), .int .i64 (r : Int), u] wr fun e w' => e = .returned ov ∧ StR base b lim w' (scnTo m r rels (j + 1) s2) ∧ Kf base wr w') := Lib.hid (by rw [HNX.out]; exact hsc)
            clear hsc hov hal
            go_wp2_with (go_at_call 203; (with_reducible refine HSC.out.mono ?_); rintro E w6 ⟨rfl, hs6, hb6⟩
                         have HS6 := Lib.hid hs6
                         have HK6 := Lib.hid (HK.out.trans hb6)
                         clear hs6 hb6)
            go_roundw
            case rel => exact ⟨j + 1, by go_num, by omega, HS6, HK6⟩
            case measure => simp [intOf]; omega
          · rw [decide_eq_false hal] at p3
            have HNX : Hid (StR base b lim wr (lkTo m rels (r + 1) x.s)) := Lib.hid (by rw [HSC0.out, scnTo_dead hal _ hj]; exact HS.out)
            clear hal
            go_wp2_with fail
            go_roundw
            case rel => exact ⟨r + 1, by go_num, by omega, HNX, HK⟩
            case measure => simp [intOf]; omega
        · obtain rfl : rels.length = j := by omega
          have HNX : Hid (StR base b lim wr (lkTo m rels (r + 1) x.s)) := Lib.hid (by rw [HSC0.out]; exact HS.out)
          go_wp2_with fail
          go_roundw
          case rel => exact ⟨r + 1, by go_num, by omega, HNX, HK⟩
          case measure => simp [intOf]; omega
    · obtain rfl : n = r := by omega
      have HLR := Lib.hid hlr
      clear hlt hrn hlr
      by_cases hlv : (lkTo m rels n x.s).live = (n : Int)
      · have HNO : Hid (roomL m rels x = none) := Lib.hid (by rw [HRL.out, if_pos hlv])
        rw [hlv] at d4
        clear hlv
        go_wp2_with fail
        go_quiet (fail)
        go_wp2_with fail
        go_ret
        exact ⟨.inr ⟨HNO.out, (by first | rfl | trivial)⟩, HB5.out.trans (HK.out.drewN _).1⟩
      · have hlo0 : (decide ((lkTo m rels n x.s).rp x.r ≠ x.r)) = !(decide ((lkTo m rels n x.s).rp x.r = x.r)) := by by_cases h : (lkTo m rels n x.s).rp x.r = x.r <;> simp [h]
        have HYE : Hid (roomL m rels x = some ⟨sqS (lkTo m rels n x.s), num (lkTo m rels n x.s) x.r, !(decide ((lkTo m rels n x.s).rp x.r = x.r)), x.removed + (n - (liv (lkTo m rels n x.s)).length), x.looks + 1⟩) := Lib.hid (by rw [HRL.out, if_neg hlv, hlo0])
        have dlv : ((lkTo m rels n x.s).live == (n : Int)) = false := by rw [beq_eq_false_iff_ne]; exact hlv
        have hlva : (lkTo m rels n x.s).live ≤ 1000 ∧ -1000 ≤ (lkTo m rels n x.s).live := by
          have h1 := live_le_n HLR.out.1
          have h2 := live_nonneg HLR.out.1
          rw [HLR.out.2] at h1
          omega
        obtain ⟨hlv1, hlv2⟩ := hlva
        clear hlv hlo0 HRL
        generalize lkTo m rels n x.s = s1 at *
        go_wp2_with fail
        go_quiet (fail)
        have hs7 : StR base b lim (wr.drewN nq) s1 := HS.out.below (below_drewN (Below.refl _ _) _)
        have hx7 : BoxL bx b g (.slice Ar rels.length cr) (x.r : Int) x.removed ((x.looks : Int) + 1) (wr.drewN nq) := HX.out.below (below_drewN (Below.refl _ _) _)
        have hb7 : Below base w (wr.drewN nq) := HB5.out.trans (HK.out.drewN _).1
        generalize wr.drewN nq = w7 at *
        have HS7 := Lib.hid hs7
        have HX7 := Lib.hid hx7
        have HB7 := Lib.hid hb7
        obtain ⟨-, P, vr7, vp, vq, bl, cs, fl, hB, hC⟩ := hs7
        obtain ⟨gr, cr7, rfl, hgb, hgl, hgc, -, hgcell⟩ := own_cell24 hC.out (by rw [HLR.out.2]; exact HN1.out)
        have hc2 := hB.cells.1
        rw [HLR.out.2] at hc2 hgcell
        have HBR := Lib.hid hB
        have HCM := Lib.hid hC
        have hz7 : base ≤ w7.heap.size := Nat.le_trans HBW.out hb7.size
        have HZ7 := Lib.hid hz7
        have HC2 : Hid (∀ W, Below w7.heap.size w7 W → W.cell? ⟨b, 0, none⟩ = some (.slice (some ⟨gr, 0, none⟩) n cr7)) := Lib.hid fun W h => (h.cell (p := ⟨b, 0, none⟩) hB.lt).trans hc2
        have HRC : Hid (∀ W k, Below w7.heap.size w7 W → k < n → W.cell? ⟨gr, k, none⟩ = some (rowV s1 bl cs k)) := Lib.hid fun W k h hk => (h.cell (p := ⟨gr, k, none⟩) hgl).trans (hgcell k _ (by simp [hk, rowV]))
        have HLV : Hid (∀ W k, Below w7.heap.size w7 W → k < n → ∃ gp cp y : Nat, W.cell? ⟨b, 1, none⟩ = some (.slice (some ⟨gp, 0, none⟩) n cp) ∧ W.cell? ⟨gp, k, none⟩ = some (.int .i64 (y : Int)) ∧ ((y : Int) == (k : Int)) = decide (s1.rp k = k)) := Lib.hid fun W k h hk => by
          obtain ⟨gp, cp, y, p1, p2, p3, -⟩ := (HS7.out.below h).liveR (r := k) (by rw [HLR.out.2]; exact hk)
          rw [HLR.out.2] at p1
          exact ⟨gp, cp, y, p1, p2, p3⟩
        have HROW : Hid (∀ i, i < n → base ≤ bl i ∧ XsAt w7 (bl i) (s1.t.row i) ∧ (s1.t.row i).length ≤ cs i ∧ cs i ≤ 9223372036854775807) := Lib.hid (by rw [← HLR.out.2]; exact hC.row)
        have HR1 : Hid ((Instr.makeSlice 24 (.int .i64 (n : Int)) (.int .i64 (n : Int))).run Try.prog w7 = .ok (.slice (some ⟨w7.heap.size, 0, none⟩) n n) (w7.alloc (.cells (Array.replicate n (.int .i64 0)) 3))) := Lib.hid (make24r w7 _ (by omega))
        have HX1 := Lib.hid (xs_madeS w7 s1)
        rw [HLR.out.2] at HX1
        have HB1 : Hid (Below w7.heap.size w7 (w7.alloc (.cells (Array.replicate n (.int .i64 0)) 3))) := Lib.hid ((Below.refl _ _).alloc (Nat.le_refl _) _)
        have hrows0 := HC2.out w7 (Below.refl _ _)
        have HO0 : Hid ((w7.alloc (.cells (Array.replicate n (.int .i64 0)) 3)).ownsRow w7.heap.size 24 1 (.slice none (livTo s1 0).length 0) (livTo s1 0).length ((livTo s1 0).map (rowV s1 bl cs))) := Lib.hid (World.ownsRow_nil _ _ _ _)
        clear hB hC hgcell hc2 hgb hgl hx7 hb7 hz7 d0 d3 d4 HS HK HX
        generalize w7.alloc (.cells (Array.replicate n (.int .i64 0)) 3) = W1 at *
        go_wp2_with ((with_reducible refine wpList_sel 95 ?_); refine wpList_val rfl (r_make 24 (.tmp 94) (.tmp 94) rfl rfl rfl HR1.out) ?_)
        clear hrows0 HR1
        go_loopw [7, 8] (fun v i wr => ∃ (k : Nat) (A : Option Addr) (c : Nat), i = .int .i64 (k : Int) ∧ k ≤ n ∧ v = .slice A (livTo s1 k).length c ∧ Hid (XsAt wr w7.heap.size (nmS s1 k)) ∧ Hid (wr.ownsRow w7.heap.size 24 1 v (livTo s1 k).length ((livTo s1 k).map (rowV s1 bl cs))) ∧ Hid (Below w7.heap.size w7 wr)) (fun _ i _ => n - (intOf i).toNat)
        case atStart => exact ⟨0, none, 0, rfl, Nat.zero_le _, rfl, HX1, HO0, HB1⟩
        case round =>
          clear HX1 HB1 HO0
          obtain ⟨k, A, c, rfl, hk, rfl, HX, HO, HB⟩ := hrel
          have hk0 : (0 : Int) ≤ (k : Int) := Int.natCast_nonneg _
          have hlk := livTo_le s1 k
          have hlk0 : (0 : Int) ≤ ((livTo s1 k).length : Int) := Int.natCast_nonneg _
          have hlk1 : ((livTo s1 k).length : Int) ≤ 1000000 := by omega
          have hrw := HC2.out wr HB.out
          by_cases hlt : k < n
          · have hltI : (k : Int) < (n : Int) := by omega
            have hlt1 : k < s1.t.length := by rw [HLR.out.2]; exact hlt
            have hcx := HX.out.cell (k := k) (by rw [length_nmS]; exact hlt1)
            have hfx := HX.out.frozen k
            have HX2 : Hid (XsAt (wr.setCell ⟨w7.heap.size, k, none⟩ (.int .i64 ((livTo s1 k).length : Int))) w7.heap.size (nmS s1 (k + 1))) := Lib.hid (by
              rw [nmS_succ hlt1]
              exact HX.out.set (k := k) (by rw [length_nmS]; exact hlt1) (num s1 k))
            have HB2 : Hid (Below w7.heap.size w7 (wr.setCell ⟨w7.heap.size, k, none⟩ (.int .i64 ((livTo s1 k).length : Int)))) := Lib.hid (HB.out.setCell (p := ⟨w7.heap.size, k, none⟩) (Nat.le_refl _) _)
            have HO2 : Hid ((wr.setCell ⟨w7.heap.size, k, none⟩ (.int .i64 ((livTo s1 k).length : Int))).ownsRow w7.heap.size 24 1 (.slice A (livTo s1 k).length c) (livTo s1 k).length ((livTo s1 k).map (rowV s1 bl cs))) := Lib.hid (owns_keep HO.out fun r hr => Below.heap_setCell wr ⟨w7.heap.size, k, none⟩ _ r fun e => by
              obtain ⟨-, C, hC⟩ := owns_block HO.out r hr
              have e' : r = w7.heap.size := e
              obtain ⟨C2, hC2, -⟩ := HX.out
              rw [e', hC2] at hC
              cases hC)
            have hr0 := HC2.out _ HB2.out
            have hr1 := HRC.out _ k HB2.out hlt
            obtain ⟨gp, cp, y, p1, p2, p3⟩ := HLV.out _ k HB2.out hlt
            clear HX HO HB
            generalize hWk : wr.setCell ⟨w7.heap.size, k, none⟩ (.int .i64 ((livTo s1 k).length : Int)) = Wk at *
            by_cases hal : s1.rp k = k
            · rw [decide_eq_true hal] at p3
              have HLS : Hid (livTo s1 (k + 1) = livTo s1 k ++ [k]) := Lib.hid (by rw [livTo_succ, if_pos hal])
              obtain ⟨A', c', w', hr, ho, hg', hw⟩ := run_push (t := 23) (ty := 23) Try.underlying23 info24p rfl (by omega) Wk w7.heap.size (.slice A (livTo s1 k).length c) (livTo s1 k).length _ HO2.out (rowV s1 bl cs k) rfl (by omega) HB2.out.size
              have HRUN := Lib.hid hr
              have hll : (livTo s1 (k + 1)).length = (livTo s1 k).length + 1 := by rw [HLS.out, List.length_append]; rfl
              have HO3 : Hid (w'.ownsRow w7.heap.size 24 1 (.slice A' (livTo s1 (k + 1)).length c') (livTo s1 (k + 1)).length ((livTo s1 (k + 1)).map (rowV s1 bl cs))) := Lib.hid (by rw [hll, HLS.out, List.map_append]; exact ho)
              have HX3 : Hid (XsAt w' w7.heap.size (nmS s1 (k + 1))) := Lib.hid (HX2.out.grown hg' fun e => by
                obtain ⟨-, C, hC⟩ := owns_block HO2.out _ e
                obtain ⟨C2, hC2, -⟩ := HX2.out
                rw [hC2] at hC
                cases hC)
              have HB3 : Hid (Below w7.heap.size w7 w') := Lib.hid (HB2.out.grown hg' HB2.out.size fun r hr => (owns_block HO2.out r hr).1)
              have HLL := Lib.hid hll
              clear hr ho hg' hw hll hal
              unfold rowV at HRUN hr1
              go_wp2_with ((with_reducible refine wpList_sel 128 ?_); refine wpList_val rfl (r_app (.tmp 119) (.tmp 127) 23 rfl rfl rfl HRUN.out) ?_)
              go_roundw
              case rel => exact ⟨k + 1, A', c', by go_num, by omega, by rw [HLL.out], HX3, Lib.hid (by rw [← HLL.out]; exact HO3.out), HB3⟩
              case measure => simp [intOf]; omega
            · rw [decide_eq_false hal] at p3
              have HLS : Hid (livTo s1 (k + 1) = livTo s1 k) := Lib.hid (by rw [livTo_succ, if_neg hal])
              clear hal
              go_wp2_with fail
              go_roundw
              case rel => exact ⟨k + 1, A, c, by go_num, by omega, by rw [HLS.out], HX2, Lib.hid (by rw [HLS.out]; exact HO2.out), HB2⟩
              case measure => simp [intOf]; omega
          · obtain rfl : n = k := by omega
            rename World => W2
            have HL : Hid (livTo s1 n = liv s1) := Lib.hid (by rw [← HLR.out.2]; rfl)
            rw [HL.out] at HO hlk hlk0 hlk1
            have HLA : Hid (∀ i, i < (liv s1).length → (liv s1).getD i 0 < n ∧ s1.rp ((liv s1).getD i 0) = (liv s1).getD i 0 ∧ num s1 ((liv s1).getD i 0) = i) := Lib.hid fun i hi => by
              have h := liv_at (s := s1) hi
              rwa [HLR.out.2] at h
            have HINJ : Hid (∀ i j, i < n → j < n → bl i = bl j → i = j) := Lib.hid (by rw [← HLR.out.2]; exact HCM.out.inj)
            have HJ : Hid (∀ i j, i < (liv s1).length → j < (liv s1).length → bl ((liv s1).getD i 0) = bl ((liv s1).getD j 0) → i = j) := Lib.hid fun i j hi hj h => by
              have h1 := HLA.out i hi
              have h2 := HLA.out j hj
              have h3 := HINJ.out _ _ h1.1 h2.1 h
              rw [← h1.2.2, ← h2.2.2, h3]
            have HBL : Hid (∀ i, i < (liv s1).length → base ≤ bl ((liv s1).getD i 0) ∧ bl ((liv s1).getD i 0) < w7.heap.size) := Lib.hid fun i hi => by
              have h1 := HROW.out _ (HLA.out i hi).1
              exact ⟨h1.1, h1.2.1.lt⟩
            have HSQ : Hid (SqM base s1 bl W2 W2 (fun i => if i < 0 then sqRow s1 ((liv s1).getD i 0) else s1.t.row ((liv s1).getD i 0))) := Lib.hid ⟨Below.refl _ _, fun _ _ _ => rfl, fun i hi => by
              rw [if_neg (Nat.not_lt_zero _)]
              exact (HROW.out _ (HLA.out i hi).1).2.1.below HB.out⟩
            have hlv1' : 1 ≤ (liv s1).length := by
              have := (num_liv (s := s1) (x := 0) (by rw [HLR.out.2]; exact HN1.out) (by have := HLR.out.1.inv.rle 0 (by rw [HLR.out.2]; exact HN1.out); omega)).1
              omega
            obtain ⟨gA, cA, eA, hgA, -, -, -, hcA⟩ := own_cell24 HO.out (by omega)
            injection eA with e1 e2 e3
            subst e1; subst e3
            have HKW : Hid (∀ W R, SqM base s1 bl W2 W R → (∀ j, j < (liv s1).length → W.cell? ⟨gA, j, none⟩ = some (rowV s1 bl cs ((liv s1).getD j 0))) ∧ XsAt W w7.heap.size (nmS s1 n)) := Lib.hid fun W R h => by
              have hz : w7.heap.size < W2.heap.size := HX.out.lt
              refine ⟨fun j hj => ?_, HX.out.keep (h.keep _ hz fun i hi e => by have := (HBL.out i hi).2; omega)⟩
              have h1 := hcA j (rowV s1 bl cs ((liv s1).getD j 0)) (by simp [List.getD_eq_getElem?_getD, hj])
              have hgl := World.block_lt_of_cell? W2 _ h1
              have h2 := h.keep gA hgl fun i hi e => by have := (HBL.out i hi).2; omega
              unfold World.cell? at h1 ⊢
              simp only [h2]
              exact h1
            have HXN := HX
            have HON := HO
            have HBN := HB
            have HP0 : Hid (OwnI W2.heap.size W2 (.slice none 0 0) (nats (List.range 0))) := Lib.hid (World.ownsRow_nil _ _ _ _)
            have HZ2 : Hid (base ≤ W2.heap.size ∧ w7.heap.size ≤ W2.heap.size) := Lib.hid ⟨Nat.le_trans HZ7.out HB.out.size, HB.out.size⟩
            obtain ⟨L, hL⟩ : ∃ L, L = (liv s1).length := ⟨_, rfl⟩
            have HLL := Lib.hid hL
            rw [← hL] at hlk hlk0 hlk1 HO hlv1' HLA HJ HBL HKW
            rw [HL.out, ← hL]
            have hLn : L ≤ n := hlk
            have hrm2 : (n : Int) ≤ 1000 := hnm
            clear hlt hk HX HO HB e2 hcA hL
            go_wp2_with fail
            go_loopw [9, 10] (fun v i wr => ∃ (j : Nat) (A' : Option Addr) (c' : Nat), i = .int .i64 (j : Int) ∧ j ≤ L ∧ v = .slice A' j c' ∧ Hid (SqM base s1 bl W2 wr (fun i => if i < j then sqRow s1 ((liv s1).getD i 0) else s1.t.row ((liv s1).getD i 0))) ∧ Hid (OwnI W2.heap.size wr v (nats (List.range j))) ∧ Hid (W2.heap.size ≤ wr.heap.size)) (fun _ i _ => L - (intOf i).toNat)
            case atStart => exact ⟨0, none, 0, rfl, Nat.zero_le _, rfl, HSQ, HP0, Lib.hid (Nat.le_refl _)⟩
            case round =>
              clear HSQ HP0
              obtain ⟨j, A', c', rfl, hj, rfl, HSQ, HPO, HSZ⟩ := hrel
              have hj0 : (0 : Int) ≤ (j : Int) := Int.natCast_nonneg _
              by_cases hlt : j < L
              · have hjI : (j : Int) < (L : Int) := by omega
                have hcr := (HKW.out _ _ HSQ.out).1 j hlt
                obtain ⟨hxl, -, -⟩ := HLA.out j hlt
                have hrl2 : (s1.t.row ((liv s1).getD j 0)).length = 2 * g := HLR.out.1.inv.len _ (by rw [HLR.out.2]; exact hxl)
                have HRB : Hid (∀ c, c < 2 * g → -1 ≤ (s1.t.row ((liv s1).getD j 0)).getD c 0 ∧ (s1.t.row ((liv s1).getD j 0)).getD c 0 < n) := Lib.hid fun c hc => by
                  have h := HLR.out.1.inv.bd ((liv s1).getD j 0) (by rw [HLR.out.2]; exact hxl) c hc
                  rw [HLR.out.2] at h
                  exact h
                have HRL := Lib.hid hrl2
                have HSR : Hid (sqRow s1 ((liv s1).getD j 0) = (s1.t.row ((liv s1).getD j 0)).map (sqF s1)) := Lib.hid rfl
                have HSQ3 : Hid (SqM base s1 bl W2 wr (fun i => if i = j then mixTo (sqF s1) (s1.t.row ((liv s1).getD j 0)) 0 else if i < j then sqRow s1 ((liv s1).getD i 0) else s1.t.row ((liv s1).getD i 0))) := Lib.hid (HSQ.out.congr fun i hi => by
                  by_cases e : i = j
                  · subst e; rw [if_pos rfl, if_neg (Nat.lt_irrefl _), mix_zero]
                  · rw [if_neg e])
                have hg0 : (1 : Int) ≤ (g : Int) := by omega
                have hgI : (g : Int) ≤ 16 := by omega
                unfold rowV at hcr
                rw [hrl2] at hcr
                clear hrl2 hxl
                generalize hxx : (liv s1).getD j 0 = x1 at *
                have HXX := Lib.hid hxx
                clear hxx
                go_wp2_with fail
                go_loopw [11] (fun i wx => ∃ c : Nat, i = .int .i64 (c : Int) ∧ c ≤ 2 * g ∧ Hid (SqM base s1 bl W2 wx (fun i => if i = j then mixTo (sqF s1) (s1.t.row x1) c else if i < j then sqRow s1 ((liv s1).getD i 0) else s1.t.row ((liv s1).getD i 0))) ∧ Hid (OwnI W2.heap.size wx (.slice A' j c') (nats (List.range j))) ∧ Hid (W2.heap.size ≤ wx.heap.size)) (fun i _ => 2 * g - (intOf i).toNat)
                case atStart => exact ⟨0, rfl, Nat.zero_le _, HSQ3, HPO, HSZ⟩
                case round =>
                  clear HSQ3 HSQ hcr HPO HSZ
                  obtain ⟨c, rfl, hc, HSQ, HPO, HSZ⟩ := hrel
                  have hc0 : (0 : Int) ≤ (c : Int) := Int.natCast_nonneg _
                  have hcr := (HKW.out _ _ HSQ.out).1 j hlt
                  rw [HXX.out] at hcr
                  unfold rowV at hcr
                  rw [HRL.out] at hcr
                  by_cases hcg : c < 2 * g
                  · have hcI : (c : Int) < 2 * (g : Int) := by omega
                    have hcI2 : (c : Int) < ((2 * g : Nat) : Int) := by omega
                    have hxr := HSQ.out.row j (by rw [← HLL.out]; exact hlt)
                    simp only [if_true] at hxr
                    rw [HXX.out] at hxr
                    have hml : c < (mixTo (sqF s1) (s1.t.row x1) c).length := by rw [length_mix, HRL.out]; exact hcg
                    have hck := hxr.cell hml
                    rw [mix_getD _ _ _ (by rw [HRL.out]; exact hcg), if_neg (Nat.lt_irrefl _)] at hck
                    have hfk := hxr.frozen c
                    obtain ⟨hb1, hb2⟩ := HRB.out c hcg
                    obtain ⟨v, hv⟩ : ∃ v, v = (s1.t.row x1).getD c 0 := ⟨_, rfl⟩
                    rw [← hv] at hck hb1 hb2
                    have HSS : Hid (∀ z, SqM base s1 bl W2 (wr.drew.setCell ⟨bl x1, c, none⟩ (.int .i64 z)) (fun i => if i = j then (mixTo (sqF s1) (s1.t.row x1) c).set c z else if i < j then sqRow s1 ((liv s1).getD i 0) else s1.t.row ((liv s1).getD i 0)) ∧ OwnI W2.heap.size (wr.drew.setCell ⟨bl x1, c, none⟩ (.int .i64 z)) (.slice A' j c') (nats (List.range j)) ∧ W2.heap.size ≤ (wr.drew.setCell ⟨bl x1, c, none⟩ (.int .i64 z)).heap.size) := Lib.hid fun z => by
                      have hsd : SqM base s1 bl W2 wr.drew (fun i => if i = j then mixTo (sqF s1) (s1.t.row x1) c else if i < j then sqRow s1 ((liv s1).getD i 0) else s1.t.row ((liv s1).getD i 0)) := ⟨HSQ.out.below.drew, HSQ.out.keep, HSQ.out.row⟩
                      have h1 := hsd.set (fun i hi => (HBL.out i (by rw [HLL.out]; exact hi)).1) (by rw [← HLL.out]; exact HJ.out) (j := j) (c := c) (by rw [← HLL.out]; exact hlt) (by simp only [if_true]; exact hml) z
                      rw [HXX.out] at h1
                      refine ⟨h1.congr fun i hi => ?_, owns_keep (w := wr.drew) HPO.out fun r hr => Below.heap_setCell wr.drew ⟨bl x1, c, none⟩ _ r fun e => ?_, by rw [World.size_setCell]; exact HSZ.out⟩
                      · by_cases e : i = j
                        · subst e; simp only [if_true]
                        · simp only [if_neg e]
                      · have h2 := (owns_block HPO.out r hr).1
                        have h3 := (HBL.out j hlt).2
                        rw [HXX.out] at h3
                        have e' : r = bl x1 := e
                        have := HZ2.out.2
                        omega
                    by_cases h0 : 0 ≤ v
                    · obtain ⟨y, rfl⟩ : ∃ y : Nat, v = (y : Int) := ⟨v.toNat, by omega⟩
                      have hyl : y < n := by omega
                      have hx2 := (HKW.out _ _ HSQ.out).2.cell (k := y) (by rw [length_nmS, HLR.out.2]; exact hyl)
                      rw [nmS_getD s1 _ (by rw [HLR.out.2]; exact hyl), if_pos hyl] at hx2
                      have HMX : Hid (mixTo (sqF s1) (s1.t.row x1) (c + 1) = (mixTo (sqF s1) (s1.t.row x1) c).set c (num s1 y : Int)) := Lib.hid (by
                        rw [mix_set _ _ (by rw [HRL.out]; exact hcg), ← hv]
                        unfold sqF
                        rw [if_pos h0, Int.toNat_natCast])
                      have HS5 := Lib.hid (HSS.out (num s1 y : Int))
                      have hy0 : (0 : Int) ≤ (y : Int) := Int.natCast_nonneg _
                      have hyI : (y : Int) < (n : Int) := by omega
                      clear HSS hxr hml hv hb1
                      go_wp2_with fail
                      go_still_tail 16, (by kernel_rfl)
                      go_wp2_with fail
                      go_roundw
                      case rel => exact ⟨c + 1, by go_num, by omega, Lib.hid (by rw [HMX.out]; exact HS5.out.1), Lib.hid HS5.out.2.1, Lib.hid HS5.out.2.2⟩
                      case measure => simp [intOf]; omega
                    · have HMX : Hid (mixTo (sqF s1) (s1.t.row x1) (c + 1) = mixTo (sqF s1) (s1.t.row x1) c) := Lib.hid (mix_same (by rw [HRL.out]; exact hcg) (by rw [← hv]; unfold sqF; rw [if_neg h0]))
                      clear HSS hxr hml hv
                      go_wp2_with fail
                      go_roundw
                      case rel => exact ⟨c + 1, by go_num, by omega, Lib.hid (by rw [HMX.out]; exact HSQ.out), HPO, HSZ⟩
                      case measure => simp [intOf]; omega
                  · obtain rfl : c = 2 * g := by omega
                    have HS6 : Hid (SqM base s1 bl W2 wr (fun i => if i < j + 1 then sqRow s1 ((liv s1).getD i 0) else s1.t.row ((liv s1).getD i 0))) := Lib.hid (HSQ.out.congr fun i hi => by
                      by_cases e : i = j
                      · subst e; rw [if_pos rfl, if_pos (Nat.lt_succ_self _), HXX.out, ← HRL.out, mix_all]; rfl
                      · rw [if_neg e]
                        by_cases e2 : i < j
                        · rw [if_pos e2, if_pos (by omega)]
                        · rw [if_neg e2, if_neg (by omega)])
                    obtain ⟨A2, c2, w9, hr9, ho9, hg9, -⟩ := push_int 24 24 Try.underlying24 wr W2.heap.size (.slice A' j c') (nats (List.range j)) HPO.out (j : Int) (by rw [length_nats, List.length_range]; omega) HSZ.out
                    rw [length_nats, List.length_range] at hr9 ho9
                    have HR9 := Lib.hid hr9
                    have HO9 : Hid (OwnI W2.heap.size w9 (.slice A2 (j + 1) c2) (nats (List.range (j + 1)))) := Lib.hid (by rw [nats_range_succ]; exact ho9)
                    have HS9 : Hid (SqM base s1 bl W2 w9 (fun i => if i < j + 1 then sqRow s1 ((liv s1).getD i 0) else s1.t.row ((liv s1).getD i 0))) := Lib.hid (HS6.out.grown hg9 HSZ.out HZ2.out.1 (fun i hi => by have := (HBL.out i (by rw [HLL.out]; exact hi)).2; have := HZ2.out.2; omega) fun r hr => (owns_block HPO.out r hr).1)
                    have HZ9 : Hid (W2.heap.size ≤ w9.heap.size) := Lib.hid (Nat.le_trans HSZ.out hg9.size)
                    clear hr9 ho9 hg9 HS6 HSQ HPO HSZ
                    go_wp2_with ((with_reducible refine wpList_sel 171 ?_); refine wpList_val rfl (r_app (.tmp 168) (.tmp 170) 24 rfl rfl rfl HR9.out) ?_)
                    go_roundw
                    case rel => exact ⟨j + 1, A2, c2, by go_num, by omega, rfl, HS9, HO9, HZ9⟩
                    case measure => simp [intOf]; omega
              · obtain rfl : L = j := by omega
                rename World => wE
                have hBR := HBR.out
                have hCM := HCM.out
                have hzE := HSZ.out
                obtain ⟨gp, cp, evp, hgpb, hgpl, hpc, -⟩ := ownI_cell hCM.par (by rw [hCM.len, HLR.out.2]; exact HN1.out)
                rw [hCM.len, HLR.out.2] at evp hpc
                obtain ⟨y, hy, hyl, -, hyi⟩ := (hCM.root.root x.r (by rw [HLR.out.2]; exact hx)).parent
                have hyc := hpc x.r hx
                rw [hy] at hyc
                obtain ⟨Cp, hCp⟩ : ∃ C, w7.heap[gp]? = some (.cells C 3 (0, 0)) := by
                  obtain ⟨-, C, h⟩ := owns_block hCM.par gp (by rw [evp]; rfl)
                  exact ⟨C, h⟩
                have hrow3 : ∀ i, i < (liv s1).length → ∃ C, w7.heap[bl ((liv s1).getD i 0)]? = some (.cells C 3 (0, 0)) := fun i hi => by
                  obtain ⟨C, h1, -⟩ := (HROW.out _ (HLA.out i (by rw [HLL.out]; exact hi)).1).2.1
                  exact ⟨C, h1⟩
                have hkE : ∀ k, k < w7.heap.size → (∀ i, i < (liv s1).length → k ≠ bl ((liv s1).getD i 0)) → wE.heap[k]? = w7.heap[k]? := fun k h1 h2 => (HSQ.out.keep k (Nat.lt_of_lt_of_le h1 HZ2.out.2) h2).trans (HBN.out.block k h1)
                have hbE : wE.heap[b]? = w7.heap[b]? := hkE b hBR.lt fun i hi e => by
                  obtain ⟨C, h⟩ := hrow3 i hi
                  rw [← e, hBR.box] at h
                  cases h
                have hxE : wE.heap[bx]? = w7.heap[bx]? := hkE bx HX7.out.lt fun i hi e => by
                  obtain ⟨C, h⟩ := hrow3 i hi
                  rw [← e, HX7.out.box] at h
                  cases h
                have hpE : wE.heap[gp]? = w7.heap[gp]? := hkE gp hgpl fun i hi e => hCM.sepP _ (by rw [HLR.out.2]; exact (HLA.out i (by rw [HLL.out]; exact hi)).1) (by rw [evp, ← e]; rfl)
                have hbne : b ≠ bx := fun e => by
                  have h1 := hBR.box
                  rw [e, HX7.out.box] at h1
                  cases h1
                have hpne : gp ≠ bx := fun e => by
                  have h1 := hCp
                  rw [e, HX7.out.box] at h1
                  cases h1
                have hnum := (HKW.out _ _ HSQ.out).2
                have hnne : w7.heap.size ≠ bx := by have := HX7.out.lt; omega
                have hcE : ∀ (W V : World) (k o : Nat), W.heap[k]? = V.heap[k]? → W.cell? ⟨k, o, none⟩ = V.cell? ⟨k, o, none⟩ := fun W V k o h => by unfold World.cell?; simp only [h]
                have HF : Hid (∀ W : World, (∀ k, k ≠ bx → W.heap[k]? = wE.heap[k]?) → W.cell? ⟨b, 0, none⟩ = some (.slice (some ⟨gr, 0, none⟩) n cr7) ∧ W.cell? ⟨b, 1, none⟩ = some (.slice (some ⟨gp, 0, none⟩) n cp) ∧ W.cell? ⟨gp, x.r, none⟩ = some (.int .i64 (y : Int)) ∧ W.cell? ⟨w7.heap.size, x.r, none⟩ = some (.int .i64 ((num s1 x.r : Nat) : Int)) ∧ ∀ k, W.frozen? ⟨b, k, none⟩ = false) := Lib.hid fun W hW => by
                  have hb := (hW b hbne).trans hbE
                  refine ⟨(hcE W w7 b 0 hb).trans (HC2.out w7 (Below.refl _ _)), (hcE W w7 b 1 hb).trans (by rw [← evp]; exact hBR.cells.2.1), (hcE W w7 gp x.r ((hW gp hpne).trans hpE)).trans hyc, (hcE W wE _ x.r (hW _ hnne)).trans ?_, fun k => ?_⟩
                  · have h := hnum.cell (k := x.r) (by rw [length_nmS, HLR.out.2]; exact hx)
                    rwa [nmS_getD s1 _ (by rw [HLR.out.2]; exact hx), if_pos hx] at h
                  · have h := hb.trans hBR.box
                    simp [World.frozen?, h]
                have hyd : ((y : Int) != (x.r : Int)) = !(decide (s1.rp x.r = x.r)) := by
                  by_cases h : y = x.r
                  · rw [decide_eq_true (hyi.1 h), h]; simp
                  · rw [decide_eq_false (fun h' => h (hyi.2 h'))]
                    simp
                    omega
                have HEND : Hid (∀ (W : World) (r' z k' : Int), (∀ k, k ≠ bx → W.heap[k]? = wE.heap[k]?) → BoxL bx b g (.slice Ar rels.length cr) r' z k' W → W.os = wE.os → W.tape = wE.tape → W.output = wE.output → W.heap.size = wE.heap.size → StR base b lim ((W.setCell ⟨b, 0, none⟩ (.slice (some ⟨gA, 0, none⟩) L c)).setCell ⟨b, 1, none⟩ (.slice A' L c')) (sqS s1) ∧ BoxL bx b g (.slice Ar rels.length cr) r' z k' ((W.setCell ⟨b, 0, none⟩ (.slice (some ⟨gA, 0, none⟩) L c)).setCell ⟨b, 1, none⟩ (.slice A' L c')) ∧ Below base w ((W.setCell ⟨b, 0, none⟩ (.slice (some ⟨gA, 0, none⟩) L c)).setCell ⟨b, 1, none⟩ (.slice A' L c'))) := Lib.hid fun W r' z k' hW hX ho1 ho2 ho3 ho4 => by
                  have hbox := boxR_set (b := b) (k := 1) (boxR_set (b := b) (k := 0) (((hW b hbne).trans hbE).trans hBR.box) (.slice (some ⟨gA, 0, none⟩) L c)) (.slice A' L c')
                  have hoth : ∀ k, k ≠ b → ((W.setCell ⟨b, 0, none⟩ (.slice (some ⟨gA, 0, none⟩) L c)).setCell ⟨b, 1, none⟩ (.slice A' L c')).heap[k]? = W.heap[k]? := fun k hk => (Below.heap_setCell _ ⟨b, 1, none⟩ _ k hk).trans (Below.heap_setCell _ ⟨b, 0, none⟩ _ k hk)
                  have hwE : Below base w wE := (HB7.out.trans (HBN.out.mono HZ7.out)).trans HSQ.out.below
                  have hWb : Below base wE W := ⟨ho1, ho2, ho3, Nat.le_of_eq ho4.symm, fun k hk => hW k (by have := HBB.out.2; omega)⟩
                  refine ⟨roomR_end HLR.out.1 HLL.out HBB.out.1 hBR hCM HBN.out HZ7.out HX7.out.lt ⟨_, HX7.out.box⟩ (HSQ.out.congr fun i hi => by rw [if_pos (by rw [HLL.out]; exact hi)]) (by have h := HON.out; rw [← HLL.out] at h; exact h) HPO.out (fun k h1 h2 => (hoth k h1).trans (hW k h2)) (by rw [hbox]; rfl), hX.keep (hoth bx (fun e => hbne e.symm)), ((hwE.trans hWb).setCell (p := ⟨b, 0, none⟩) HBB.out.1 _).setCell (p := ⟨b, 1, none⟩) HBB.out.1 _⟩
                have HXE : Hid (BoxL bx b g (.slice Ar rels.length cr) (x.r : Int) x.removed ((x.looks : Int) + 1) wE) := Lib.hid (HX7.out.keep hxE)
                have HNU : Hid ((num s1 x.r : Nat) ≤ 1000) := Lib.hid (by have := livTo_le s1 x.r; have : num s1 x.r = (livTo s1 x.r).length := rfl; omega)
                obtain ⟨-, -, -, x3, x4, -, xf⟩ := HXE.out.cells
                have xf4 := xf 4
                have hrm0 : (0 : Int) ≤ (x.removed : Int) := Int.natCast_nonneg _
                have hrm1 : (x.removed : Int) ≤ 50000 := by have := HRM.out; omega
                have hxr0 : (0 : Int) ≤ (x.r : Int) := Int.natCast_nonneg _
                have hxrI : (x.r : Int) < (n : Int) := by omega
                obtain ⟨f0, f1, f2, f3, ff⟩ := HF.out wE (fun _ _ => rfl)
                clear hBR hCM hzE evp hgpb hgpl hpc hy hyl hyi hyc hCp hrow3 hkE hbE hxE hpE hbne hpne hnum hnne hcE x3 xf f1 f2 f3 ff
                go_wp2_with fail
                go_still_tail 16, (by kernel_rfl)
                go_wp2_with fail
                have hW10 : ∀ k, k ≠ bx → ((wE.setCell ⟨bx, 4, none⟩ (.int .i64 ((x.removed : Int) + (n : Int) - (L : Int)))).drew).heap[k]? = wE.heap[k]? := fun k hk => Below.heap_setCell wE ⟨bx, 4, none⟩ _ k hk
                have hX10 : BoxL bx b g (.slice Ar rels.length cr) (x.r : Int) ((x.removed : Int) + (n : Int) - (L : Int)) ((x.looks : Int) + 1) ((wE.setCell ⟨bx, 4, none⟩ (.int .i64 ((x.removed : Int) + (n : Int) - (L : Int)))).drew) := (HXE.out.upd4 _).keep rfl
                have ho1 : ((wE.setCell ⟨bx, 4, none⟩ (.int .i64 ((x.removed : Int) + (n : Int) - (L : Int)))).drew).os = wE.os := rfl
                have ho2 : ((wE.setCell ⟨bx, 4, none⟩ (.int .i64 ((x.removed : Int) + (n : Int) - (L : Int)))).drew).tape = wE.tape := rfl
                have ho3 : ((wE.setCell ⟨bx, 4, none⟩ (.int .i64 ((x.removed : Int) + (n : Int) - (L : Int)))).drew).output = wE.output := rfl
                have ho4 : ((wE.setCell ⟨bx, 4, none⟩ (.int .i64 ((x.removed : Int) + (n : Int) - (L : Int)))).drew).heap.size = wE.heap.size := by simp [World.setCell, World.drew]
                generalize (wE.setCell ⟨bx, 4, none⟩ (.int .i64 ((x.removed : Int) + (n : Int) - (L : Int)))).drew = w10 at *
                obtain ⟨f0, f1, f2, f3, ff⟩ := HF.out w10 hW10
                obtain ⟨x0, x1, x2, x3, x4', x5, xf⟩ := hX10.cells
                have xf3 := xf 3
                have ff0 := ff 0
                have ff1 := ff 1
                have hb0 := HF.out
                have hbne : b ≠ bx := fun e => by
                  have h1 := HBR.out.box
                  rw [e, HX7.out.box] at h1
                  cases h1
                have hnu0 : (0 : Int) ≤ ((num s1 x.r : Nat) : Int) := Int.natCast_nonneg _
                have hnu1 : ((num s1 x.r : Nat) : Int) ≤ 1000 := by have := HNU.out; omega
                have hz : (x.removed : Int) + (n : Int) - (L : Int) = ((x.removed + (n - L) : Nat) : Int) := by omega
                have HFIN : Hid (∀ (q : Nat) (r' : Int), StR base b lim ((((w10.drewN q).setCell ⟨bx, 3, none⟩ (.int .i64 r')).setCell ⟨b, 0, none⟩ (.slice (some ⟨gA, 0, none⟩) L c)).setCell ⟨b, 1, none⟩ (.slice A' L c')) (sqS s1) ∧ BoxL bx b g (.slice Ar rels.length cr) r' ((x.removed + (n - L) : Nat) : Int) ((x.looks : Int) + 1) ((((w10.drewN q).setCell ⟨bx, 3, none⟩ (.int .i64 r')).setCell ⟨b, 0, none⟩ (.slice (some ⟨gA, 0, none⟩) L c)).setCell ⟨b, 1, none⟩ (.slice A' L c')) ∧ Below base w ((((w10.drewN q).setCell ⟨bx, 3, none⟩ (.int .i64 r')).setCell ⟨b, 0, none⟩ (.slice (some ⟨gA, 0, none⟩) L c)).setCell ⟨b, 1, none⟩ (.slice A' L c'))) := Lib.hid fun q r' => by
                  have hbq := below_drewN (Below.refl w10.heap.size w10) q
                  have hXq : BoxL bx b g (.slice Ar rels.length cr) (x.r : Int) ((x.removed + (n - L) : Nat) : Int) ((x.looks : Int) + 1) (w10.drewN q) := by rw [← hz]; exact hX10.below hbq
                  exact HEND.out ((w10.drewN q).setCell ⟨bx, 3, none⟩ (.int .i64 r')) r' _ _ (fun k hk => (Below.heap_setCell _ ⟨bx, 3, none⟩ _ k hk).trans ((by rfl : (w10.drewN q).heap[k]? = w10.heap[k]?).trans (hW10 k hk))) (hXq.upd3 r') (hbq.os.trans ho1) (hbq.tape.trans ho2) (hbq.output.trans ho3) (by rw [World.size_setCell]; exact ho4)
                have HFIN2 : Hid (∀ (q : Nat) (r0 r' : Int), StR base b lim (((((w10.drewN q).setCell ⟨bx, 3, none⟩ (.int .i64 r0)).setCell ⟨bx, 3, none⟩ (.int .i64 r')).setCell ⟨b, 0, none⟩ (.slice (some ⟨gA, 0, none⟩) L c)).setCell ⟨b, 1, none⟩ (.slice A' L c')) (sqS s1) ∧ BoxL bx b g (.slice Ar rels.length cr) r' ((x.removed + (n - L) : Nat) : Int) ((x.looks : Int) + 1) (((((w10.drewN q).setCell ⟨bx, 3, none⟩ (.int .i64 r0)).setCell ⟨bx, 3, none⟩ (.int .i64 r')).setCell ⟨b, 0, none⟩ (.slice (some ⟨gA, 0, none⟩) L c)).setCell ⟨b, 1, none⟩ (.slice A' L c')) ∧ Below base w (((((w10.drewN q).setCell ⟨bx, 3, none⟩ (.int .i64 r0)).setCell ⟨bx, 3, none⟩ (.int .i64 r')).setCell ⟨b, 0, none⟩ (.slice (some ⟨gA, 0, none⟩) L c)).setCell ⟨b, 1, none⟩ (.slice A' L c'))) := Lib.hid fun q r0 r' => by
                  have hbq := below_drewN (Below.refl w10.heap.size w10) q
                  have hXq : BoxL bx b g (.slice Ar rels.length cr) (x.r : Int) ((x.removed + (n - L) : Nat) : Int) ((x.looks : Int) + 1) (w10.drewN q) := by rw [← hz]; exact hX10.below hbq
                  exact HEND.out (((w10.drewN q).setCell ⟨bx, 3, none⟩ (.int .i64 r0)).setCell ⟨bx, 3, none⟩ (.int .i64 r')) r' _ _ (fun k hk => (Below.heap_setCell _ ⟨bx, 3, none⟩ _ k hk).trans ((Below.heap_setCell _ ⟨bx, 3, none⟩ _ k hk).trans ((by rfl : (w10.drewN q).heap[k]? = w10.heap[k]?).trans (hW10 k hk)))) ((hXq.upd3 r0).upd3 r') (hbq.os.trans ho1) (hbq.tape.trans ho2) (hbq.output.trans ho3) (by rw [World.size_setCell, World.size_setCell]; exact ho4)
                have HRT : Hid (x.removed + (n - L) ≤ 1000 * (x.looks + 1) ∧ (sqS s1).t.length ≤ 1000) := Lib.hid ⟨by have := HRM.out; omega, by rw [length_sq, ← HLL.out]; omega⟩
                have HYD := Lib.hid hyd
                clear hW10 hX10 ho1 ho2 ho3 ho4 HF HEND HXE xf4 hb0 xf ff x1 x2 x4' x5 hz hyd x4
                by_cases hal : s1.rp x.r = x.r
                · have hyd : ((y : Int) != (x.r : Int)) = false := by rw [HYD.out, decide_eq_true hal]; rfl
                  rw [decide_eq_true hal] at HYE
                  clear hal
                  go_quiet (fail)
                  go_wp2_with fail
                  go_ret
                  obtain ⟨e1, e2, e3⟩ := HFIN.out _ ((num s1 x.r : Nat) : Int)
                  refine ⟨.inl ⟨_, HYE.out, (by first | rfl | trivial), e1, HBB.out.2, ?_, ?_, HRT.out.2⟩, e3⟩
                  · rw [← HLL.out]; exact e2
                  · rw [← HLL.out]; exact HRT.out.1
                · have hyd : ((y : Int) != (x.r : Int)) = true := by rw [HYD.out, decide_eq_false hal]; rfl
                  rw [decide_eq_false hal] at HYE
                  clear hal
                  go_quiet (fail)
                  go_wp2_with fail
                  go_ret
                  obtain ⟨e1, e2, e3⟩ := HFIN2.out _ ((num s1 x.r : Nat) : Int) (-1 - ((num s1 x.r : Nat) : Int))
                  refine ⟨.inl ⟨_, HYE.out, (by first | rfl | trivial), e1, HBB.out.2, ?_, ?_, HRT.out.2⟩, e3⟩
                  · rw [← HLL.out]; exact e2
                  · rw [← HLL.out]; exact HRT.out.1
end Go.Proofs
