/- The reference's run; (*coset.state).table; (*coset.state).table: the walk; The reference's Result. -/
import Derived.Test.YtmpnengjboabcaaGreatRgCS19
namespace Go.Proofs
open Go.RowKit Go.Shelf Go.Proofs.Ct Go.Maps
theorem StR.live {base b lim : Nat} {w : World} {s : St} (hS : StR base b lim w s) {r : Nat} (hr : r < s.t.length) : ∃ (y gp cp : Nat), w.cell? ⟨b, 1, none⟩ = some (.slice (some ⟨gp, 0, none⟩) s.t.length cp) ∧ w.cell? ⟨gp, r, none⟩ = some (.int .i64 (y : Int)) ∧ (y = r ↔ s.rp r = r) := by
  obtain ⟨P, gp, cp, c1, hR, hc⟩ := hS.par hr
  obtain ⟨y, hy, -, -, hyi⟩ := (hR.root r hr).parent
  have hck := hc r hr
  rw [hy] at hck
  exact ⟨y, gp, cp, c1, hck, hyi⟩
set_option maxRecDepth 100000 in
set_option maxHeartbeats 4000000 in
theorem run89_any (g m base b lim : Nat) (hm : m = 2 * g) (hg : g ≤ 16) (hg1 : 1 ≤ g) (w : World) (vr vs : Value) (rels sub : List W) (hS : StR base b lim w (startS m)) (hbw : base ≤ w.heap.size) (hlim : lim ≤ 999999) (h1 : 1 ≤ lim) (hr : Words base w vr rels) (hs : Words base w vs sub) (hlr : ∀ j, LOk g (rels.getD j [])) (hls : ∀ j, LOk g (sub.getD j [])) :
    Calls Tryz.prog 49 #[.pointer (some ⟨b, 0, none⟩), .agg #[.int .i64 (g : Int), vr], vs] w fun e w' => ((∃ s', runS m lim rels sub = some s' ∧ e = .returned (.bool true) ∧ StR base b lim w' s') ∨ (runS m lim rels sub = none ∧ e = .returned (.bool false))) ∧ Below base w w' := by
  have HS0 := Lib.hid hS
  have HBW := Lib.hid hbw
  obtain ⟨Ar, cr, rfl, hra, hrc, -⟩ := (hr.tab (Below.refl _ _)).open_
  obtain ⟨As, cs, rfl, hsa, hsc, -⟩ := (hs.tab (Below.refl _ _)).open_
  have HG0 : Hid (Ct.Good g lim (startS m)) := Lib.hid (by rw [hm]; exact start_good h1)
  have HFQ : Hid (runS m lim rels sub = (optTo (subS m lim sub) sub.length (startS m)).bind (optTo (rowsS m lim rels) lim)) := Lib.hid rfl
  generalize runS m lim rels sub = F at *
  have hsb : (0 : Int) ≤ (sub.length : Int) := Int.natCast_nonneg _
  have hsb2 : (sub.length : Int) ≤ 9223372036854775807 := by omega
  have hrb : (0 : Int) ≤ (rels.length : Int) := Int.natCast_nonneg _
  have hrb2 : (rels.length : Int) ≤ 9223372036854775807 := by omega
  have HRW := Lib.hid hr
  have HSW := Lib.hid hs
  have HBX0 : Hid (∀ w1 : World, w1 = w.alloc (.cells #[.int .i64 (g : Int), .slice Ar rels.length cr] 26) → w1.heap[w.heap.size]? = some (.cells #[.int .i64 (g : Int), .slice Ar rels.length cr] 26 (0, 0)) ∧ Below w.heap.size w w1) := Lib.hid fun w1 h => by
    subst h
    exact ⟨heap_alloc_new w _, (Below.refl _ _).alloc (Nat.le_refl _) _⟩
  have HM := Lib.hid hm
  clear hr hs hS hbw hm
  go_enter Tryz.func49, Tryz.ntmps49
  go_wp2_with fail
  generalize hw1 : w.alloc (.cells #[.int .i64 (g : Int), .slice Ar rels.length cr] 26) = w1 at *
  obtain ⟨hbx, hb1⟩ := HBX0.out w1 rfl
  have HKF : Hid (Kf base w w1) := Lib.hid (Kf.of hb1 HBW.out)
  have HBX : Hid (∀ W, Kf base w1 W → W.cell? ⟨w.heap.size, 0, none⟩ = some (.int .i64 (g : Int)) ∧ W.cell? ⟨w.heap.size, 1, none⟩ = some (.slice Ar rels.length cr)) := Lib.hid fun W h => cell_of2 (h.2 _ _ hbx)
  have HS1 := Lib.hid (HS0.out.below hb1)
  clear hw1 hbx hb1 HBX0 HS0
  go_loopg [7] sub.length (fun n i wr => ∃ (k : Nat) (s1 : St), i = .int .i64 (k : Int) ∧ n = sub.length - k ∧ k ≤ sub.length ∧ Hid (optTo (subS m lim sub) k (startS m) = some s1 ∧ Ct.Good g lim s1 ∧ StR base b lim wr s1) ∧ Hid (Kf base w1 wr))
  case atStart => exact ⟨0, startS m, rfl, by omega, Nat.zero_le _, Lib.hid ⟨rfl, HG0.out, HS1.out⟩, Lib.hid (Kf.refl _ _)⟩
  case round =>
    clear HS1 HG0
    obtain ⟨k, s1, rfl, hgk, hk, HI, HB⟩ := hrel
    have HGK := Lib.hid hgk
    clear hgk
    have hk0 : (0 : Int) ≤ (k : Int) := Int.natCast_nonneg _
    have HB0 := Lib.hid (HKF.out.trans HB.out)
    by_cases hlt : k < sub.length
    · have hltI : (k : Int) < (sub.length : Int) := by omega
      obtain ⟨bs, os, c', u, e, hcell⟩ := HSW.out.at_ hlt
      injection e with e1 e2 e3
      subst e1 e3
      have hck := (hcell wr HB0.out.1).1
      have hgd := HI.out.2.1
      have HFI : Hid (Calls Tryz.prog 78 #[.pointer (some ⟨b, 0, none⟩), .int .i64 0, u] wr fun e w' => ((∃ s', fillS m lim s1 0 (sub.getD k []) = some s' ∧ e = .returned (.bool true) ∧ StR base b lim w' s') ∨ (fillS m lim s1 0 (sub.getD k []) = none ∧ e = .returned (.bool false))) ∧ Kf base wr w') := Lib.hid (fill131_any g m base b lim 0 HM.out hg hg1 wr s1 u (sub.getD k []) hgd.rest HI.out.2.2 (Nat.le_trans HBW.out HB0.out.size) hlim hgd.n2 (fun W h => (hcell W (HB0.out.1.trans h)).2) (hls k) (by have := hgd.n1; omega) (Ct.rp_zero hgd.rest (by have := hgd.n1; omega)))
      have HOP : Hid (optTo (subS m lim sub) (k + 1) (startS m) = fillS m lim s1 0 (sub.getD k [])) := Lib.hid (by rw [optTo_succ, HI.out.1]; rfl)
      clear hcell hgd
      generalize hfs : fillS m lim s1 0 (sub.getD k []) = fs at *
      have HFS := Lib.hid hfs
      clear hfs
      cases fs with
      | none =>
        have HE : Hid (F = none) := Lib.hid (by rw [HFQ.out, optTo_none HOP.out sub.length (by omega)]; rfl)
        have HFI' := Lib.hid (HFI.out.mono (R' := fun E w2 => E = .returned (.bool false) ∧ Kf base wr w2) fun E w2 ⟨h, hb⟩ => ⟨by
          rcases h with ⟨s', e, -⟩ | ⟨-, h⟩
          · cases e
          · exact h, hb⟩)
        clear HFI
        go_wp2_with (first
          | (go_at_call 78; (with_reducible refine HFI'.out.mono ?_); rintro E w2 ⟨rfl, hb2⟩
             have HB2 := Lib.hid (HB0.out.trans hb2)
             clear hb2))
        go_ret
        exact ⟨.inr ⟨HE.out, rfl⟩, HB2.out.1⟩
      | some s2 =>
        have HG2 : Hid (Ct.Good g lim s2) := Lib.hid (by
          have := HFS.out
          rw [HM.out] at this
          exact (fill_good HI.out.2.1 (by have := HI.out.2.1.n1; omega) (Ct.rp_zero HI.out.2.1.rest (by have := HI.out.2.1.n1; omega)) (hls k) this).1)
        have HFI' := Lib.hid (HFI.out.mono (R' := fun E w' => E = .returned (.bool true) ∧ StR base b lim w' s2 ∧ Kf base wr w') fun E w2 ⟨h, hb⟩ => by
          rcases h with ⟨s', e, h1, h2⟩ | ⟨e, -⟩
          · cases e
            exact ⟨h1, h2, hb⟩
          · cases e)
        clear HFI
        go_wp2_with (first
          | (go_at_call 78; (with_reducible refine HFI'.out.mono ?_); rintro E w2 ⟨rfl, hs2, hb2⟩
             have HB2 := Lib.hid (HB.out.trans hb2)
             have HS2 := Lib.hid hs2
             clear hb2 hs2))
        go_roundg (sub.length - (k + 1))
        case measure => have := HGK.out; omega
        case rel => exact ⟨k + 1, s2, by go_num, rfl, by omega, Lib.hid ⟨HOP.out, HG2.out, HS2.out⟩, HB2⟩
    · obtain rfl : k = sub.length := by omega
      have HFR : Hid (F = optTo (rowsS m lim rels) lim s1) := Lib.hid (by rw [HFQ.out, HI.out.1]; rfl)
      clear hlt
      go_wp2_with fail
      go_loopg [8] (lim + 1) (fun n i wr => ∃ (k : Nat) (s2 : St), i = .int .i64 (k : Int) ∧ n = lim + 1 - k ∧ k ≤ s2.t.length ∧ Hid (optTo (rowsS m lim rels) k s1 = some s2 ∧ Ct.Good g lim s2 ∧ StR base b lim wr s2) ∧ Hid (Kf base w1 wr))
      case atStart => exact ⟨0, s1, rfl, by omega, Nat.zero_le _, Lib.hid ⟨rfl, HI.out.2.1, HI.out.2.2⟩, HB⟩
      case round =>
        clear HI HB HB0
        obtain ⟨k, s2, rfl, hgk, hk2, HI, HB⟩ := hrel
        have HB0 := Lib.hid (HKF.out.trans HB.out)
        have hk0 : (0 : Int) ≤ (k : Int) := Int.natCast_nonneg _
        obtain ⟨A2, c2, hc2, -, -⟩ := HI.out.2.2.tops
        have hn2 : s2.t.length ≤ lim := HI.out.2.1.n2
        have HGK := Lib.hid hgk
        clear hgk
        by_cases hlt : k < s2.t.length
        · have HKL := Lib.hid hlt
          have hltI : (k : Int) < (s2.t.length : Int) := by omega
          have hn2I : (s2.t.length : Int) ≤ 999999 := by omega
          clear hlt
          go_upto_block 4 with fail
          go_cut [] from 33 to 59 (fun wx => ∃ s3, Hid (optTo (relS m lim rels k) rels.length s2 = some s3 ∧ StR base b lim wx s3) ∧ Hid (Kf base w1 wx))
          case first =>
            go_wp2_with fail
            go_loopg [9] rels.length (fun n i wx => ∃ (j : Nat) (s3 : St), i = .int .i64 (j : Int) ∧ n = rels.length - j ∧ j ≤ rels.length ∧ Hid (optTo (relS m lim rels k) j s2 = some s3 ∧ StR base b lim wx s3) ∧ Hid (Kf base w1 wx))
            case atStart => exact ⟨0, s2, rfl, by omega, Nat.zero_le _, Lib.hid ⟨rfl, HI.out.2.2⟩, HB⟩
            case round =>
              obtain ⟨j, s3, rfl, hgj, hj, HI3, HB3⟩ := hrel
              have HB30 := Lib.hid (HKF.out.trans HB3.out)
              have hj0 : (0 : Int) ≤ (j : Int) := Int.natCast_nonneg _
              have HGJ := Lib.hid hgj
              clear hgj
              have HG3 : Hid (Ct.Good g lim s3 ∧ Ext g s2 s3) := Lib.hid (by
                have := HI3.out.1
                rw [HM.out] at this
                exact rel_good (fun j _ => hlr j) HI.out.2.1 HKL.out this)
              have hk3 : k < s3.t.length := Nat.lt_of_lt_of_le HKL.out HG3.out.2.n
              have hk3I : (k : Int) < (s3.t.length : Int) := by omega
              have hx1 := (HBX.out _ HB3.out).2
              obtain ⟨y, gp, cp, p1, p2, hyi⟩ := HI3.out.2.live hk3
              have HYI := Lib.hid hyi
              clear hyi
              by_cases hjl : j < rels.length
              · have hjlI : (j : Int) < (rels.length : Int) := by omega
                obtain ⟨bs, os, c', u, e, hcell⟩ := HRW.out.at_ hjl
                injection e with e1 e2 e3
                subst e1 e3
                have hck := (hcell _ HB30.out.1).1
                by_cases hal : s3.rp k = k
                · obtain rfl : y = k := HYI.out.2 hal
                  have d1 : ((y : Int) == (y : Int)) = true := by simp
                  have HFI := Lib.hid (fill131_any g m base b lim y HM.out hg hg1 _ s3 u (rels.getD j []) HG3.out.1.rest HI3.out.2 (Nat.le_trans HBW.out HB30.out.size) hlim HG3.out.1.n2 (fun W' h' => (hcell W' (HB30.out.1.trans h')).2) (hlr j) hk3 hal)
                  have HOP : Hid (optTo (relS m lim rels y) (j + 1) s2 = fillS m lim s3 y (rels.getD j [])) := Lib.hid (by
                    rw [optTo_succ, HI3.out.1]
                    exact if_pos hal)
                  clear hcell hal
                  generalize hfs : fillS m lim s3 y (rels.getD j []) = fs at *
                  have HFS := Lib.hid hfs
                  clear hfs
                  cases fs with
                  | none =>
                    have HE : Hid (F = none) := Lib.hid (by
                      rw [HFR.out]
                      refine optTo_none (k := y + 1) ?_ lim (by have := HKL.out; omega)
                      rw [optTo_succ, HI.out.1]
                      show rowsS m lim rels y s2 = none
                      unfold rowsS rowS
                      rw [if_pos HKL.out, optTo_none HOP.out rels.length (by omega)]
                      rfl)
                    have HFI' := Lib.hid (HFI.out.mono (R' := fun E w2 => E = .returned (.bool false) ∧ Kf base _ w2) fun E w2 ⟨h, hb⟩ => ⟨by
                      rcases h with ⟨s', e, -⟩ | ⟨-, h⟩
                      · cases e
                      · exact h, hb⟩)
                    clear HFI
                    go_wp2_with (first
                      | (go_at_call 78; (with_reducible refine HFI'.out.mono ?_); rintro E w2 ⟨rfl, hb2⟩
                         have HB2 := Lib.hid (HB30.out.trans hb2)
                         clear hb2))
                    go_ret
                    exact ⟨.inr ⟨HE.out, rfl⟩, HB2.out.1⟩
                  | some s4 =>
                    have HFI' := Lib.hid (HFI.out.mono (R' := fun E w' => E = .returned (.bool true) ∧ StR base b lim w' s4 ∧ Kf base _ w') fun E w2 ⟨h, hb⟩ => by
                      rcases h with ⟨s', e, h1, h2⟩ | ⟨e, -⟩
                      · cases e
                        exact ⟨h1, h2, hb⟩
                      · cases e)
                    clear HFI
                    go_wp2_with (first
                      | (go_at_call 78; (with_reducible refine HFI'.out.mono ?_); rintro E w2 ⟨rfl, hs2, hb2⟩
                         have HB2 := Lib.hid (HB3.out.trans hb2)
                         have HS2 := Lib.hid hs2
                         clear hb2 hs2))
                    go_roundg (rels.length - (j + 1))
                    case measure => have := HGJ.out; omega
                    case rel => exact ⟨j + 1, s4, by go_num, rfl, by omega, Lib.hid ⟨HOP.out, HS2.out⟩, HB2⟩
                · have hyk : ¬ y = k := fun h => hal (HYI.out.1 h)
                  have d1 : ((y : Int) == (k : Int)) = false := by rw [beq_eq_false_iff_ne]; omega
                  have HOP : Hid (optTo (relS m lim rels k) rels.length s2 = some s3) := Lib.hid (opt_stop HI3.out.1 (fun i _ => relS_dead hal) _ hj)
                  clear hcell hal hyk
                  go_wp2_with fail
                  go_meet
                  case rel => exact ⟨s3, Lib.hid ⟨HOP.out, HI3.out.2⟩, HB3⟩
              · obtain rfl : j = rels.length := by omega
                clear hjl
                go_wp2_with fail
                go_meet
                case rel => exact ⟨s3, HI3, HB3⟩
          case rest =>
            clear hc2
            obtain ⟨s3, HI3, HB3⟩ := hcut
            have HG3 : Hid (Ct.Good g lim s3 ∧ Ext g s2 s3) := Lib.hid (by
              have := HI3.out.1
              rw [HM.out] at this
              exact rel_good (fun j _ => hlr j) HI.out.2.1 HKL.out this)
            have hk3 : k < s3.t.length := Nat.lt_of_lt_of_le HKL.out HG3.out.2.n
            have hgI : (g : Int) ≤ 16 := by omega
            have hg0 : (1 : Int) ≤ (g : Int) := by omega
            go_wp2_with fail
            go_loopg [10] m (fun n i wx => ∃ (c : Nat) (s4 : St), i = .int .i64 (c : Int) ∧ n = m - c ∧ c ≤ m ∧ Hid (optTo (colS m lim k) c s3 = some s4 ∧ StR base b lim wx s4) ∧ Hid (Kf base w1 wx))
            case atStart => exact ⟨0, s3, rfl, by omega, Nat.zero_le _, Lib.hid ⟨rfl, HI3.out.2⟩, HB3⟩
            case round =>
              obtain ⟨c, s4, rfl, hgc, hc, HI4, HB4⟩ := hrel
              have HB40 := Lib.hid (HKF.out.trans HB4.out)
              have HGC := Lib.hid hgc
              clear hgc
              have hc0 : (0 : Int) ≤ (c : Int) := Int.natCast_nonneg _
              have HG4 : Hid (Ct.Good g lim s4 ∧ Ext g s3 s4) := Lib.hid (by
                have := HI4.out.1
                rw [HM.out] at this
                obtain ⟨a1, a2, -⟩ := col_good HG3.out.1 hk3 (by have := HM.out; omega) this
                exact ⟨a1, a2⟩)
              have hk4 : k < s4.t.length := Nat.lt_of_lt_of_le hk3 HG4.out.2.n
              have hk4I : (k : Int) < (s4.t.length : Int) := by omega
              have hx0 := (HBX.out _ HB4.out).1
              obtain ⟨y, gp, cp, p1, p2, hyi⟩ := HI4.out.2.live hk4
              have HYI := Lib.hid hyi
              clear hyi
              have HEND : Hid (optTo (colS m lim k) m s3 = some s4 → optTo (rowsS m lim rels) (k + 1) s1 = some s4) := Lib.hid (fun h => by
                rw [optTo_succ, HI.out.1]
                show rowsS m lim rels k s2 = some s4
                unfold rowsS rowS
                rw [if_pos HKL.out, HI3.out.1]
                exact h)
              have HGE : Hid (k + 1 ≤ s4.t.length) := Lib.hid (by omega)
              by_cases hcm : c < m
              · have hcmI : (c : Int) < 2 * (g : Int) := by have := HM.out; omega
                have hcmI2 : (c : Int) < (m : Int) := by omega
                by_cases hal : s4.rp k = k
                · obtain rfl : y = k := HYI.out.2 hal
                  have d1 : ((y : Int) == (y : Int)) = true := by simp
                  have HAH := Lib.hid hal
                  clear hal
                  obtain ⟨gr, cr4, br, kr, a1, a2, a3⟩ := HI4.out.2.at_ HG4.out.1.rest.inv hk4 (c := c) (by rw [← HM.out]; exact hcm)
                  rw [← HM.out] at a2
                  by_cases hneg : s4.t.at y c < 0
                  · have hd5 : decide (s4.t.at y c < 0) = true := decide_eq_true hneg
                    by_cases hfull : s4.t.length = lim
                    · have HE : Hid (F = none) := Lib.hid (by
                        rw [HFR.out]
                        refine optTo_none (k := y + 1) ?_ lim (by have := HKL.out; omega)
                        rw [optTo_succ, HI.out.1]
                        show rowsS m lim rels y s2 = none
                        unfold rowsS rowS
                        rw [if_pos HKL.out, HI3.out.1]
                        refine optTo_none (k := c + 1) ?_ m (by omega)
                        rw [optTo_succ, HI4.out.1]
                        show colS m lim y c s4 = none
                        unfold colS
                        rw [if_pos ⟨HAH.out, hneg⟩, if_pos hfull])
                      have HD : Hid (∀ W, StR base b lim W s4 → base ≤ W.heap.size → Calls Tryz.prog 79 #[.pointer (some ⟨b, 0, none⟩), .int .i64 (y : Int), .int .i64 (c : Int)] W fun e w' => e = .returned (.bool false) ∧ Kf base W w') := Lib.hid fun W h hw => by
                        subst hfull
                        exact define132_full base b y c W s4 h hw (by omega)
                      clear hfull
                      go_wp2_with (first
                        | (go_at_call 79; (with_reducible refine (HD.out _ HI4.out.2 (Nat.le_trans HBW.out HB40.out.size)).mono ?_); rintro E w2 ⟨rfl, hb2⟩
                           have HB2 := Lib.hid (HB40.out.trans hb2)
                           clear hb2))
                      go_ret
                      exact ⟨.inr ⟨HE.out, rfl⟩, HB2.out.1⟩
                    · have HOP : Hid (optTo (colS m lim y) (c + 1) s3 = some (defS m s4 y c)) := Lib.hid (by
                        rw [optTo_succ, HI4.out.1]
                        show colS m lim y c s4 = _
                        unfold colS
                        rw [if_pos ⟨HAH.out, hneg⟩, if_neg hfull])
                      have HD : Hid (∀ W, StR base b lim W s4 → base ≤ W.heap.size → Calls Tryz.prog 79 #[.pointer (some ⟨b, 0, none⟩), .int .i64 (y : Int), .int .i64 (c : Int)] W fun e w' => e = .returned (.bool true) ∧ StR base b lim w' (defS m s4 y c) ∧ Kf base W w') := Lib.hid fun W h hw => by
                        exact define132_any g m base b lim y c HM.out hg hg1 W s4 HG4.out.1.rest h hw (by have := HG4.out.1.n2; omega) hk4 hcm (by have := HG4.out.1.n2; omega)
                      clear hfull
                      go_wp2_with (first
                        | (go_at_call 79; (with_reducible refine (HD.out _ HI4.out.2 (Nat.le_trans HBW.out HB40.out.size)).mono ?_); rintro E w2 ⟨rfl, hs2, hb2⟩
                           have HS2 := Lib.hid hs2
                           have HB2 := Lib.hid (HB4.out.trans hb2)
                           clear hs2 hb2))
                      go_roundg (m - (c + 1))
                      case measure => have := HGC.out; omega
                      case rel => exact ⟨c + 1, _, by go_num, rfl, by omega, Lib.hid ⟨HOP.out, HS2.out⟩, HB2⟩
                  · have hd5 : decide (s4.t.at y c < 0) = false := decide_eq_false hneg
                    have HOP : Hid (optTo (colS m lim y) (c + 1) s3 = some s4) := Lib.hid (by
                      rw [optTo_succ, HI4.out.1]
                      show colS m lim y c s4 = _
                      unfold colS
                      rw [if_neg fun h' => hneg h'.2])
                    go_wp2_with fail
                    go_roundg (m - (c + 1))
                    case measure => have := HGC.out; omega
                    case rel => exact ⟨c + 1, s4, by go_num, rfl, by omega, Lib.hid ⟨HOP.out, HI4.out.2⟩, HB4⟩
                · have hyk : ¬ y = k := fun h => hal (HYI.out.1 h)
                  have d1 : ((y : Int) == (k : Int)) = false := by rw [beq_eq_false_iff_ne]; omega
                  have HFIN : Hid (optTo (rowsS m lim rels) (k + 1) s1 = some s4) := Lib.hid (HEND.out (opt_stop HI4.out.1 (fun i _ => colS_dead hal) _ hc))
                  clear hal hyk
                  go_wp2_with fail
                  go_roundg (lim + 1 - (k + 1))
                  case measure => have := HGK.out; have := HKL.out; omega
                  case rel => exact ⟨k + 1, s4, by go_num, rfl, HGE.out, Lib.hid ⟨HFIN.out, HG4.out.1, HI4.out.2⟩, HB4⟩
              · obtain rfl : c = m := by omega
                have HFIN : Hid (optTo (rowsS c lim rels) (k + 1) s1 = some s4) := Lib.hid (HEND.out HI4.out.1)
                have hcmI : ¬ (c : Int) < 2 * (g : Int) := by have := HM.out; omega
                clear hcm
                go_wp2_with fail
                go_roundg (lim + 1 - (k + 1))
                case measure => have := HGK.out; have := HKL.out; omega
                case rel => exact ⟨k + 1, s4, by go_num, rfl, HGE.out, Lib.hid ⟨HFIN.out, HG4.out.1, HI4.out.2⟩, HB4⟩
        · have HE : Hid (F = some s2) := Lib.hid (by
            rw [HFR.out]
            exact opt_stop HI.out.1 (fun i hi => rowsS_stop (by omega)) lim (by omega))
          clear hn2
          go_wp2_with fail
          go_ret
          exact ⟨.inl ⟨s2, HE.out, rfl, HI.out.2.2⟩, HB0.out.1⟩
end Go.Proofs
namespace Go.Proofs.Ct
def nmL (s : St) (k : Nat) : List Int := (List.range s.t.length).map fun i => if i < k ∧ s.rp i = i then (num s i : Int) else 0
theorem length_nmL (s : St) (k : Nat) : (nmL s k).length = s.t.length := by simp [nmL]
theorem nmL_getD (s : St) (k : Nat) {i : Nat} (h : i < s.t.length) : (nmL s k).getD i 0 = if i < k ∧ s.rp i = i then (num s i : Int) else 0 := by
  unfold nmL
  simp [List.getD_eq_getElem?_getD, h]
theorem nmL_zero (s : St) : nmL s 0 = List.replicate s.t.length 0 := getD_ext (d := 0) (by simp [length_nmL]) fun i hi => by
  rw [length_nmL] at hi
  rw [nmL_getD s 0 hi, if_neg (by omega)]
  simp [List.getD_eq_getElem?_getD, hi]
theorem nmL_live {s : St} {k : Nat} (h : k < s.t.length) (hl : s.rp k = k) : nmL s (k + 1) = (nmL s k).set k (num s k) := getD_ext (d := 0) (by simp [length_nmL]) fun i hi => by
  rw [length_nmL] at hi
  rw [nmL_getD s _ hi, getD_set, length_nmL]
  by_cases e : k = i
  · subst e; rw [if_pos ⟨by omega, hl⟩, if_pos ⟨rfl, h⟩]
  · rw [if_neg (fun h' : k = i ∧ k < s.t.length => e h'.1), nmL_getD s _ hi]
    by_cases h2 : i < k ∧ s.rp i = i
    · rw [if_pos h2, if_pos ⟨by omega, h2.2⟩]
    · rw [if_neg h2, if_neg (fun h' => h2 ⟨by omega, h'.2⟩)]
theorem nmL_dead {s : St} {k : Nat} (hl : s.rp k ≠ k) : nmL s (k + 1) = nmL s k := getD_ext (d := 0) (by simp [length_nmL]) fun i hi => by
  rw [length_nmL] at hi
  rw [nmL_getD s _ hi, nmL_getD s _ hi]
  by_cases h2 : i < k ∧ s.rp i = i
  · rw [if_pos h2, if_pos ⟨by omega, h2.2⟩]
  · rw [if_neg h2, if_neg (fun h' => h2 ⟨by
      rcases Nat.lt_or_ge i k with h3 | h3
      · exact h3
      · obtain rfl : i = k := by omega
        exact absurd h'.2 hl, h'.2⟩)]
def tabTo (s : St) (k : Nat) : Tb := (livTo s k).map fun x => (s.t.row x).map fun v => (num s v.toNat : Int)
theorem tabTo_live {s : St} {k : Nat} (hl : s.rp k = k) : tabTo s (k + 1) = tabTo s k ++ [(s.t.row k).map fun v => (num s v.toNat : Int)] := by
  unfold tabTo
  rw [livTo_succ, if_pos hl, List.map_append]
  rfl
theorem tabTo_dead {s : St} {k : Nat} (hl : s.rp k ≠ k) : tabTo s (k + 1) = tabTo s k := by
  unfold tabTo
  rw [livTo_succ, if_neg hl]
theorem length_tabTo (s : St) (k : Nat) : (tabTo s k).length = (livTo s k).length := by simp [tabTo]
def mixTo (f : Int → Int) (x : List Int) (c : Nat) : List Int := (x.take c).map f ++ x.drop c
theorem length_mix (f : Int → Int) (x : List Int) (c : Nat) : (mixTo f x c).length = x.length := by simp [mixTo]; omega
theorem mix_zero (f : Int → Int) (x : List Int) : mixTo f x 0 = x := by simp [mixTo]
theorem mix_all (f : Int → Int) (x : List Int) : mixTo f x x.length = x.map f := by simp [mixTo]
theorem mix_getD (f : Int → Int) (x : List Int) (c : Nat) {i : Nat} (h : i < x.length) : (mixTo f x c).getD i 0 = if i < c then f (x.getD i 0) else x.getD i 0 := by
  unfold mixTo
  rw [List.getD_eq_getElem?_getD, List.getElem?_append]
  by_cases h2 : i < c
  · rw [if_pos (by simp; omega), if_pos h2]
    simp [List.getD_eq_getElem?_getD, h, h2]
  · rw [if_neg (by simp; omega), if_neg h2]
    simp [List.getD_eq_getElem?_getD, Nat.min_eq_left (by omega : c ≤ x.length), show c + (i - c) = i by omega]
theorem mix_set (f : Int → Int) (x : List Int) {c : Nat} (h : c < x.length) : mixTo f x (c + 1) = (mixTo f x c).set c (f (x.getD c 0)) := getD_ext (d := 0) (by simp [length_mix]) fun i hi => by
  rw [length_mix] at hi
  rw [mix_getD f x _ hi, getD_set, length_mix]
  by_cases e : c = i
  · subst e; rw [if_pos (by omega), if_pos ⟨rfl, h⟩]
  · rw [if_neg (fun h' : c = i ∧ c < x.length => e h'.1), mix_getD f x _ hi]
    by_cases h2 : i < c
    · rw [if_pos h2, if_pos (by omega)]
    · rw [if_neg h2, if_neg (by omega)]
end Go.Proofs.Ct
namespace Go.Proofs
open Go.RowKit Go.Shelf Go.Proofs.Ct Go.Maps
theorem OutSt2.set {e : TypeId} (he : e ≠ 3) {F : Nat → Prop} {w0 wr : World} {vout vr : Value} {rows : List (List Int)} {x : List Int} (h : OutSt2 e F w0 wr vout vr rows x) {g k : Nat} (hg : vr.ownBlock = some g) (hk : k < x.length) (z : Int) : OutSt2 e F w0 (wr.setCell ⟨g, k, none⟩ (.int .i64 z)) vout vr rows (x.set k z) := by
  obtain ⟨h1, C, hC⟩ := owns_block h.row g hg
  refine ⟨h.st.grown (grown_setCell wr g k _) fun r hr => ?_, ownI_set h.row hg hk z, h.ap⟩
  obtain rfl : g = r := Option.some.inj hr
  refine ⟨h1, h.ap g hg, fun e' => ?_⟩
  obtain ⟨-, C', hC'⟩ := h.st.out.block g e'
  rw [hC] at hC'
  injection hC' with h5
  injection h5 with _ h6 _
  exact he h6.symm
theorem eqnil24_none (w : World) (n c : Nat) : (binOp .eql 22 (.slice none n c) (.slice none 0 0)).run Tryz.prog w = .ok (.bool true) w := by kernel_rfl
theorem eqnil24_some (w : World) (a : Addr) (n c : Nat) : (binOp .eql 22 (.slice (some a) n c) (.slice none 0 0)).run Tryz.prog w = .ok (.bool false) w := by kernel_rfl
set_option maxRecDepth 100000 in
theorem clone129_any (w : World) (v : Value) (xs : List Int) (h : IntsAt w v xs) (hl : xs.length ≤ 1000000) :
    Calls Tryz.prog 66 #[v] w fun e w' => ∃ A c, e = .returned (.slice A xs.length c) ∧ OwnI w.heap.size w' (.slice A xs.length c) xs ∧ Below w.heap.size w w' := by
  obtain ⟨A0, c0, w', hr, hb, ho⟩ := run_copy Tryz.underlying22 h hl
  have HR := Lib.hid hr
  have HB := Lib.hid hb
  have HO := Lib.hid ho
  obtain ⟨A, cap, rfl, hcap, hmax, hc⟩ := h.open_
  cases A with
  | none =>
    have h0 : xs = [] := by
      rcases Nat.eq_zero_or_pos xs.length with h0 | h0
      · exact List.length_eq_zero_iff.1 h0
      · obtain ⟨b, off, hx, -⟩ := hc h0
        cases hx
    clear hr hb ho hc h HR HB HO
    subst h0
    have hq := eqnil24_none w
    go_enter Tryz.func66, Tryz.ntmps66
    go_wp2_with fail
    go_ret
    exact ⟨none, 0, rfl, World.ownsRow_nil _ _ _ _, Below.refl _ _⟩
  | some a =>
    clear hr hb ho hc h
    have hq := eqnil24_some w
    go_enter Tryz.func66, Tryz.ntmps66
    go_wp2_with ((with_reducible refine wpList_sel 7 ?_); refine wpList_val rfl (r_app (.tmp 5) (.tmp 6) 22 rfl rfl rfl HR.out) ?_)
    go_ret
    exact ⟨_, _, rfl, HO.out, HB.out⟩
theorem StP.rowAt {g base b m lim : Nat} {w : World} {s : St} (hI : Inv g s) (hn : s.t.length ≤ 1000000) (h : StP base b m lim w s) {r : Nat} (hr : r < s.t.length) : ∃ gr cr br k, w.cell? ⟨b, 2, none⟩ = some (.slice (some ⟨gr, 0, none⟩) s.t.length cr) ∧ w.cell? ⟨gr, r, none⟩ = some (.slice (some ⟨br, 0, none⟩) (2 * g) k) ∧ IntsAt w (.slice (some ⟨br, 0, none⟩) (2 * g) k) (s.t.row r) := by
  obtain ⟨-, P, vr, vp, vq, bl, cs, hB, hC⟩ := h
  obtain ⟨-, hX, h1, h2⟩ := hC.row r hr
  have hlen := hI.len r hr
  have hfit : Fits (s.t.row r) := fun x hx => by
    obtain ⟨c, hc, rfl⟩ := List.mem_iff_getElem.1 hx
    have := hI.bd r hr c (by omega)
    unfold Tb.at at this
    rw [List.getD_eq_getElem?_getD, List.getElem?_eq_getElem hc] at this
    simp at this
    omega
  obtain ⟨hl, ho⟩ := hC.out
  rcases ho with ⟨-, h0⟩ | ⟨gr, cap, cur, rfl, hb, hCr, h3, hm, hs, ht⟩
  · omega
  · refine ⟨gr, cap, bl r, cs r, hB.cells.2.2.1, ?_, hX.ints hlen (by omega) h2 hfit⟩
    rw [cell_of_row _ _ _ _ _ _ hCr]
    have h2 : (cur.toList.take (s.t.length * 1))[r]? = ((List.range s.t.length).map fun i => Value.slice (some ⟨bl i, 0, none⟩) (s.t.row i).length (cs i))[r]? := by rw [ht]
    rw [List.getElem?_take, if_pos (by omega)] at h2
    simpa [hr, hlen] using h2
theorem StP.rows0 {base b m lim : Nat} {w : World} {s : St} (h : StP base b m lim w s) (h1 : 0 < s.t.length) : ∃ gr c, w.cell? ⟨b, 2, none⟩ = some (.slice (some ⟨gr, 0, none⟩) s.t.length c) := by
  obtain ⟨-, P, vr, vp, vq, bl, cs, hB, hC⟩ := h
  rcases hC.out.2 with ⟨-, h0⟩ | ⟨gr, cap, cur, rfl, -⟩
  · omega
  · exact ⟨gr, cap, hB.cells.2.2.1⟩
end Go.Proofs
namespace Go.Proofs
open Go.RowKit Go.Shelf Go.Proofs.Ct Go.Maps
theorem xs_made (w : World) (s : St) : XsAt (w.alloc (.cells (Array.replicate s.t.length (.int .i64 0)) 3)) w.heap.size (nmL s 0) := by
  refine ⟨_, heap_alloc_new w _, by simp [length_nmL], fun k hk => ?_⟩
  rw [length_nmL] at hk
  rw [nmL_zero]
  simp [List.getD_eq_getElem?_getD, hk]
theorem fits_tab {g lim : Nat} {s : St} (_hG : Ct.Good g lim s) (hn : s.t.length ≤ 20000) (x : List Int) (hx : ∀ v ∈ x, v.toNat ≤ s.t.length) : Fits (x.map fun v => (num s v.toNat : Int)) := fun z hz => by
  obtain ⟨v, hv, rfl⟩ := List.mem_map.1 hz
  have := livTo_le s v.toNat
  have := hx v hv
  show -9223372036854775808 ≤ ((num s v.toNat : Nat) : Int) ∧ ((num s v.toNat : Nat) : Int) ≤ 9223372036854775807
  unfold num
  omega
theorem row_addr {base : Nat} {w : World} {A : Option Addr} {n c : Nat} {xs : List Int} (h : OwnI base w (.slice A n c) xs) (h0 : 0 < xs.length) : ∃ g, A = some ⟨g, 0, none⟩ := by
  obtain ⟨g, c', e, -⟩ := ownI_cell h h0
  injection e with e1 e2 e3
  exact ⟨g, e1⟩
set_option maxRecDepth 100000 in
set_option maxHeartbeats 4000000 in
theorem table86_any (g m base b lim : Nat) (hm : m = 2 * g) (hg : g ≤ 16) (hg1 : 1 ≤ g) (w : World) (s : St) (hS : StP base b m lim w s) (hG : Ct.Good g lim s) (hC : Comp g s s.t.length) (hlim : lim ≤ 20000) :
    Calls Tryz.prog 38 #[.pointer (some ⟨b, 0, none⟩)] w fun e w' => ∃ u, e = .returned u ∧ Tab w' u (tabS s) ∧ Below w.heap.size w w' := by
  have hn : s.t.length ≤ 20000 := Nat.le_trans hG.n2 hlim
  have hn1 := hG.n1
  have hn0 : (s.t.length : Int) ≤ 20000 := by omega
  have hn2 : (0 : Int) ≤ (s.t.length : Int) := Int.natCast_nonneg _
  obtain ⟨gr, cr, hrows⟩ := hS.rows0 hn1
  have HRO := Lib.hid hrows
  have HS := Lib.hid hS
  have HG := Lib.hid hG
  have HC := Lib.hid hC
  have HM := Lib.hid hm
  have HR1 : Hid ((Instr.makeSlice 22 (.int .i64 (s.t.length : Int)) (.int .i64 (s.t.length : Int))).run Tryz.prog w = .ok (.slice (some ⟨w.heap.size, 0, none⟩) s.t.length s.t.length) (w.alloc (.cells (Array.replicate s.t.length (.int .i64 0)) 3))) := Lib.hid (make24r w _ (by omega))
  have HX1 := Lib.hid (xs_made w s)
  have HB1 : Hid (Below w.heap.size w (w.alloc (.cells (Array.replicate s.t.length (.int .i64 0)) 3))) := Lib.hid ((Below.refl _ _).alloc (Nat.le_refl _) _)
  generalize w.alloc (.cells (Array.replicate s.t.length (.int .i64 0)) 3) = W1 at *
  have hrows1 := (HB1.out.cell (p := ⟨b, 2, none⟩) (World.block_lt_of_cell? w _ hrows)).trans hrows
  clear hS hG hC hm
  go_enter Tryz.func38, Tryz.ntmps38
  go_wp2_with ((with_reducible refine wpList_sel 16 ?_); refine wpList_val rfl (r_make 22 (.tmp 15) (.tmp 15) rfl rfl rfl HR1.out) ?_)
  go_loopg [4, 22] s.t.length (fun n v i wr => ∃ k : Nat, i = .int .i64 (k : Int) ∧ n = s.t.length - k ∧ k ≤ s.t.length ∧ v = .int .i64 ((num s k : Nat) : Int) ∧ Hid (XsAt wr w.heap.size (nmL s k)) ∧ Hid (Below w.heap.size w wr))
  case atStart => exact ⟨0, rfl, by omega, Nat.zero_le _, rfl, HX1, HB1⟩
  case round =>
    clear hrows hrows1 HX1 HB1
    obtain ⟨k, rfl, hgk, hk, rfl, HX, HB⟩ := hrel
    have HGK := Lib.hid hgk
    clear hgk
    have hk0 : (0 : Int) ≤ (k : Int) := Int.natCast_nonneg _
    have hnk : num s k ≤ k := livTo_le s k
    have hnk0 : (0 : Int) ≤ ((num s k : Nat) : Int) := Int.natCast_nonneg _
    have hnk1 : ((num s k : Nat) : Int) ≤ 20000 := by omega
    have hrowsk := (HB.out.cell (p := ⟨b, 2, none⟩) (World.block_lt_of_cell? w _ HRO.out)).trans HRO.out
    by_cases hlt : k < s.t.length
    · have hltI : (k : Int) < (s.t.length : Int) := by omega
      have HAL := Lib.hid (alive127_any g base b m lim k _ s (HS.out.below HB.out) hlt)
      by_cases hal : s.rp k = k
      · have HAT : Hid (decide (s.rp k = k) = true) := Lib.hid (by simp [hal])
        have HNL : Hid (nmL s (k + 1) = (nmL s k).set k (num s k)) := Lib.hid (nmL_live hlt hal)
        have HNK : Hid (num s (k + 1) = num s k + 1) := Lib.hid (by
          unfold num
          rw [livTo_succ, if_pos hal]
          simp)
        have hcx := HX.out.cell (k := k) (by rw [length_nmL]; exact hlt)
        have hfx := HX.out.frozen k
        have HX2 := Lib.hid (HX.out.set (k := k) (by rw [length_nmL]; exact hlt) (num s k))
        clear hal
        go_wp2_with (first
          | (go_at_call 64; (with_reducible refine HAL.out.mono ?_); rintro E w2 ⟨rfl, rfl⟩; rw [HAT.out]))
        go_roundg (s.t.length - (k + 1))
        case measure => have := HGK.out; omega
        case rel => exact ⟨k + 1, by go_num, rfl, by omega, by rw [HNK.out]; go_num, Lib.hid (by rw [HNL.out]; exact HX2.out), Lib.hid (HB.out.grown (grown_setCell _ _ _ _) HB.out.size (fun k hk => by cases hk; exact Nat.le_refl _))⟩
      · have HAT : Hid (decide (s.rp k = k) = false) := Lib.hid (by simp [hal])
        have HNL : Hid (nmL s (k + 1) = nmL s k) := Lib.hid (nmL_dead hal)
        have HNK : Hid (num s (k + 1) = num s k) := Lib.hid (by
          unfold num
          rw [livTo_succ, if_neg hal])
        clear hal
        go_wp2_with (first
          | (go_at_call 64; (with_reducible refine HAL.out.mono ?_); rintro E w2 ⟨rfl, rfl⟩; rw [HAT.out]))
        go_roundg (s.t.length - (k + 1))
        case measure => have := HGK.out; omega
        case rel => exact ⟨k + 1, by go_num, rfl, by omega, by rw [HNK.out], Lib.hid (by rw [HNL.out]; exact HX.out), HB⟩
    · obtain rfl : k = s.t.length := by omega
      rename World => W2
      clear hlt
      have HST : Hid (OutSt 22 (fun _ => False) W2 W2 (.slice none 0 0) (tabTo s 0)) := Lib.hid (OutSt.nil 22 (Below.refl _ _))
      have HXN := HX
      have HBN := HB
      go_wp2_with fail
      go_loopg [6, 40] s.t.length (fun n v i wr => ∃ k : Nat, i = .int .i64 (k : Int) ∧ n = s.t.length - k ∧ k ≤ s.t.length ∧ ∃ (F : Nat → Prop) (A : Option Addr) (c : Nat), v = .slice A (tabTo s k).length c ∧ Hid (OutSt 22 F W2 wr (.slice A (tabTo s k).length c) (tabTo s k)))
      case atStart => exact ⟨0, rfl, by omega, Nat.zero_le _, _, none, 0, rfl, HST⟩
      case round =>
        clear HST HX HB HGK hnk hnk0 hnk1 hk0 hk hrowsk
        obtain ⟨k, rfl, hgk, hk, F, A, cA, rfl, HO⟩ := hrel
        have HGK := Lib.hid hgk
        clear hgk
        have hk0 : (0 : Int) ≤ (k : Int) := Int.natCast_nonneg _
        have HBK := Lib.hid (HBN.out.trans (HO.out.below.mono HBN.out.size))
        by_cases hlt : k < s.t.length
        · have hltI : (k : Int) < (s.t.length : Int) := by omega
          have hSP := HS.out.below HBK.out
          have HAL := Lib.hid (alive127_any g base b m lim k _ s hSP hlt)
          obtain ⟨gr', cr', br, kc, a1, a2, a3⟩ := hSP.rowAt HG.out.rest.inv (by omega) hlt
          have a0 := (HBK.out.cell (p := ⟨b, 2, none⟩) (World.block_lt_of_cell? w _ HRO.out)).trans HRO.out
          rw [a0] at a1
          injection a1 with a1
          injection a1 with a1 e2 e3
          injection a1 with a1
          injection a1 with a1
          subst a1
          clear e2 e3 a0 hSP
          have HCL := Lib.hid (clone129_any wr _ _ a3 (by rw [HG.out.rest.inv.len k hlt]; omega))
          rw [HG.out.rest.inv.len k hlt] at HCL
          by_cases hal : s.rp k = k
          · have HAT : Hid (decide (s.rp k = k) = true) := Lib.hid (by simp [hal])
            have HTL : Hid (tabTo s (k + 1) = tabTo s k ++ [(s.t.row k).map fun v => (num s v.toNat : Int)]) := Lib.hid (tabTo_live hal)
            have HRW : Hid (∀ c, c < 2 * g → ∃ y : Nat, s.t.at k c = (y : Int) ∧ y < s.t.length ∧ s.rp y = y) := Lib.hid fun c hc => by
              have h0 := HC.out k hlt hlt c hc
              rw [hal] at h0
              obtain ⟨y, hy⟩ := Int.eq_ofNat_of_zero_le h0
              obtain ⟨-, h2, h3⟩ := HG.out.rest.live hlt hc (show Ct.Edge s.t k c y from hy)
              exact ⟨y, hy, h3, h2⟩
            have HRL := Lib.hid (HG.out.rest.inv.len k hlt)
            have HRB : Hid (∀ v ∈ s.t.row k, v.toNat ≤ s.t.length) := Lib.hid fun v hv => by
              obtain ⟨c, hc, rfl⟩ := List.mem_iff_getElem.1 hv
              obtain ⟨y, hy, hy1, -⟩ := HRW.out c (by rw [← HG.out.rest.inv.len k hlt]; exact hc)
              unfold Tb.at at hy
              rw [List.getD_eq_getElem?_getD, List.getElem?_eq_getElem hc] at hy
              simp at hy
              omega
            have HTK := Lib.hid (length_tabTo s k)
            have HLK := Lib.hid (livTo_le s k)
            clear hal a3
            go_wp2_with (first
              | (go_at_call 64; (with_reducible refine HAL.out.mono ?_); rintro E w2 ⟨rfl, rfl⟩; rw [HAT.out])
              | (go_at_call 66; (with_reducible refine HCL.out.mono ?_); rintro E w2 ⟨A3, c3, rfl, ho3, hb3⟩
                 obtain ⟨h3, rfl⟩ : ∃ h3, A3 = some ⟨h3, 0, none⟩ := row_addr ho3 (by rw [HRL.out]; omega)
                 have HO3 : Hid (OutSt2 22 F W2 w2 (.slice A (tabTo s k).length cA) (.slice (some ⟨h3, 0, none⟩) (2 * g) c3) (tabTo s k) (mixTo (fun v => (num s v.toNat : Int)) (s.t.row k) 0)) := Lib.hid (by rw [mix_zero]; exact HO.out.with_row hb3 ho3)
                 clear ho3 hb3))
            go_loopg [53] (2 * g) (fun n i wx => ∃ c : Nat, i = .int .i64 (c : Int) ∧ n = 2 * g - c ∧ c ≤ 2 * g ∧ Hid (OutSt2 22 F W2 wx (.slice A (tabTo s k).length cA) (.slice (some ⟨h3, 0, none⟩) (2 * g) c3) (tabTo s k) (mixTo (fun v => (num s v.toNat : Int)) (s.t.row k) c)))
            case atStart => exact ⟨0, rfl, by omega, Nat.zero_le _, HO3⟩
            case round =>
              clear HO3
              obtain ⟨c, rfl, hgc, hc, HO4⟩ := hrel
              have HGC := Lib.hid hgc
              clear hgc
              have hc0 : (0 : Int) ≤ (c : Int) := Int.natCast_nonneg _
              have hxl : (mixTo (fun v => (num s v.toNat : Int)) (s.t.row k) c).length = 2 * g := by rw [length_mix, HRL.out]
              by_cases hcg : c < 2 * g
              · have hcI : (c : Int) < 2 * (g : Int) := by omega
                obtain ⟨y, hy, hy1, hy2⟩ := HRW.out c hcg
                have hrow := HO4.out.row
                obtain ⟨g', c', e, -, -, hcc, hff⟩ := ownI_cell hrow (by rw [hxl]; omega)
                injection e with e1 e2 e3
                injection e1 with e1
                injection e1 with e1
                subst e1
                have hck := hcc c (by rw [hxl]; exact hcg)
                rw [mix_getD _ _ _ (by rw [HRL.out]; exact hcg), if_neg (Nat.lt_irrefl _)] at hck
                have hyy : (s.t.row k).getD c 0 = (y : Int) := hy
                rw [hyy] at hck
                have hfk := hff c
                have hx2 := (HXN.out.below HO4.out.st.below).cell (k := y) (by rw [length_nmL]; exact hy1)
                rw [nmL_getD s _ hy1, if_pos ⟨hy1, hy2⟩] at hx2
                have HO5 := Lib.hid (HO4.out.set (by decide) (g := h3) (k := c) rfl (by rw [hxl]; exact hcg) (num s y : Int))
                have HMX : Hid (mixTo (fun v => (num s v.toNat : Int)) (s.t.row k) (c + 1) = (mixTo (fun v => (num s v.toNat : Int)) (s.t.row k) c).set c (num s y : Int)) := Lib.hid (by
                  rw [mix_set _ _ (by rw [HRL.out]; exact hcg), hyy, Int.toNat_natCast])
                have hy0 : (0 : Int) ≤ (y : Int) := Int.natCast_nonneg _
                have hyI : (y : Int) < (s.t.length : Int) := by omega
                clear hcc hff hrow e2 e3 hyy hy hxl
                go_wp2_with fail
                go_roundg (2 * g - (c + 1))
                case measure => have := HGC.out; omega
                case rel => exact ⟨c + 1, by go_num, rfl, by omega, Lib.hid (by rw [HMX.out]; exact HO5.out)⟩
              · obtain rfl : c = 2 * g := by omega
                have hS := HO4.out
                rw [← HRL.out, mix_all] at hS
                rw [HRL.out] at hS
                obtain ⟨A8, c8, w8, hr8, hS8⟩ := hS.done (by decide) Tryz.underlying29 info24p (fits_tab HG.out (by omega) _ HRB.out) (by have := HTK.out; have := HLK.out; omega)
                rw [← HTL.out] at hS8
                have hlen : (tabTo s (k + 1)).length = (tabTo s k).length + 1 := by rw [HTL.out]; simp
                rw [← hlen] at hr8 hS8
                have HR8 := Lib.hid hr8
                have HS8 := Lib.hid hS8
                clear hr8 hS8 hS hlen hxl
                go_wp2_with ((with_reducible refine wpList_sel 70 ?_); refine wpList_val rfl (r_app (.tmp 67) (.tmp 69) 29 rfl rfl rfl HR8.out) ?_)
                go_roundg (s.t.length - (k + 1))
                case measure => have := HGK.out; omega
                case rel => exact ⟨k + 1, by go_num, rfl, by omega, _, A8, c8, rfl, HS8⟩
          · have HAT : Hid (decide (s.rp k = k) = false) := Lib.hid (by simp [hal])
            have HTL : Hid (tabTo s (k + 1) = tabTo s k) := Lib.hid (tabTo_dead hal)
            clear hal a3 HCL
            go_wp2_with (first
              | (go_at_call 64; (with_reducible refine HAL.out.mono ?_); rintro E w2 ⟨rfl, rfl⟩; rw [HAT.out]))
            go_roundg (s.t.length - (k + 1))
            case measure => have := HGK.out; omega
            case rel =>
              have h1 := HO.out
              have h2 := HTL.out
              rw [← h2] at h1 ⊢
              exact ⟨k + 1, by go_num, rfl, by omega, F, A, cA, rfl, Lib.hid h1⟩
        · obtain rfl : k = s.t.length := by omega
          clear hlt
          have HT := Lib.hid HO.out.out.tab
          go_wp2_with fail
          go_ret
          exact ⟨_, rfl, HT.out, HBK.out⟩
end Go.Proofs
namespace Go.Proofs
open Go.RowKit Go.Shelf Go.Proofs.Ct Go.Maps
set_option maxRecDepth 100000 in
set_option maxHeartbeats 4000000 in
theorem result90_any (g m base b lim : Nat) (hm : m = 2 * g) (hg : g ≤ 16) (hg1 : 1 ≤ g) (w : World) (s : St) (hS : StR base b lim w s) (hG : Ct.Good g lim s) (hC : Comp g s s.t.length) (hlim : lim ≤ 20000) :
    Calls Tryz.prog 50 #[.pointer (some ⟨b, 0, none⟩), .int .i64 (g : Int)] w fun e w' => ∃ u, e = .returned u ∧ TabB w.heap.size w' u (stdE g (tabS s) 0).1 ∧ Below w.heap.size w w' := by
  have hn : s.t.length ≤ 20000 := Nat.le_trans hG.n2 hlim
  have hn1 := hG.n1
  have hn0 : (s.t.length : Int) ≤ 20000 := by omega
  have hn2 : (0 : Int) ≤ (s.t.length : Int) := Int.natCast_nonneg _
  obtain ⟨gr, cr, bl, cs, hrows, hv1, hv2⟩ := hS.view hG.rest.inv.len (by omega)
  have HRO := Lib.hid hrows
  have HV1 : Hid (∀ W, Below w.heap.size w W → ∀ r, r < s.t.length → W.cell? ⟨gr, r, none⟩ = some (.slice (some ⟨bl r, 0, none⟩) (2 * g) (cs r))) := Lib.hid fun W h r hr => (h.cell (p := ⟨gr, r, none⟩) (World.block_lt_of_cell? w _ (hv1 r hr))).trans (hv1 r hr)
  have HV2 : Hid (∀ W, Below w.heap.size w W → ∀ r c, r < s.t.length → c < 2 * g → W.cell? ⟨bl r, c, none⟩ = some (.int .i64 (s.t.at r c))) := Lib.hid fun W h r c hr hc => (h.cell (p := ⟨bl r, c, none⟩) (World.block_lt_of_cell? w _ (hv2 r c hr hc).1)).trans (hv2 r c hr hc).1
  have HVO : Hid (∀ W, Below w.heap.size w W → W.cell? ⟨b, 0, none⟩ = some (.slice (some ⟨gr, 0, none⟩) s.t.length cr)) := Lib.hid fun W h => (h.cell (p := ⟨b, 0, none⟩) (World.block_lt_of_cell? w _ hrows)).trans hrows
  have HS := Lib.hid hS
  have HG := Lib.hid hG
  have HC := Lib.hid hC
  have HM := Lib.hid hm
  have HTS := Lib.hid (tab_std hg1 hg hlim hG hC)
  have HR1 : Hid ((Instr.makeSlice 22 (.int .i64 (s.t.length : Int)) (.int .i64 (s.t.length : Int))).run Tryz.prog w = .ok (.slice (some ⟨w.heap.size, 0, none⟩) s.t.length s.t.length) (w.alloc (.cells (Array.replicate s.t.length (.int .i64 0)) 3))) := Lib.hid (make24r w _ (by omega))
  have HX1 := Lib.hid (xs_made w s)
  have HB1 : Hid (Below w.heap.size w (w.alloc (.cells (Array.replicate s.t.length (.int .i64 0)) 3))) := Lib.hid ((Below.refl _ _).alloc (Nat.le_refl _) _)
  generalize w.alloc (.cells (Array.replicate s.t.length (.int .i64 0)) 3) = W1 at *
  clear hS hG hC hm hv1 hv2
  go_enter Tryz.func50, Tryz.ntmps50
  go_wp2_with ((with_reducible refine wpList_sel 17 ?_); refine wpList_val rfl (r_make 22 (.tmp 16) (.tmp 16) rfl rfl rfl HR1.out) ?_)
  clear hrows
  go_loopg [7, 8] s.t.length (fun n v i wr => ∃ k : Nat, i = .int .i64 (k : Int) ∧ n = s.t.length - k ∧ k ≤ s.t.length ∧ v = .int .i64 ((num s k : Nat) : Int) ∧ Hid (XsAt wr w.heap.size (nmL s k)) ∧ Hid (Below w.heap.size w wr))
  case atStart => exact ⟨0, rfl, by omega, Nat.zero_le _, rfl, HX1, HB1⟩
  case round =>
    clear HX1 HB1
    obtain ⟨k, rfl, hgk, hk, rfl, HX, HB⟩ := hrel
    have HGK := Lib.hid hgk
    clear hgk
    have hk0 : (0 : Int) ≤ (k : Int) := Int.natCast_nonneg _
    have hnk : num s k ≤ k := livTo_le s k
    have hnk0 : (0 : Int) ≤ ((num s k : Nat) : Int) := Int.natCast_nonneg _
    have hnk1 : ((num s k : Nat) : Int) ≤ 20000 := by omega
    have hrowsk := HVO.out _ HB.out
    by_cases hlt : k < s.t.length
    · have hltI : (k : Int) < (s.t.length : Int) := by omega
      obtain ⟨y, gp, cp, p1, p2, hyi⟩ := (HS.out.below HB.out).live hlt
      have HYI := Lib.hid hyi
      clear hyi
      by_cases hal : s.rp k = k
      · obtain rfl : y = k := HYI.out.2 hal
        have d1 : ((y : Int) == (y : Int)) = true := by simp
        have HNL : Hid (nmL s (y + 1) = (nmL s y).set y (num s y)) := Lib.hid (nmL_live hlt hal)
        have HNK : Hid (num s (y + 1) = num s y + 1) := Lib.hid (by
          unfold num
          rw [livTo_succ, if_pos hal]
          simp)
        have hcx := HX.out.cell (k := y) (by rw [length_nmL]; exact hlt)
        have hfx := HX.out.frozen y
        have HX2 := Lib.hid (HX.out.set (k := y) (by rw [length_nmL]; exact hlt) (num s y))
        clear hal
        go_wp2_with fail
        go_roundg (s.t.length - (y + 1))
        case measure => have := HGK.out; omega
        case rel => exact ⟨y + 1, by go_num, rfl, by omega, by rw [HNK.out]; go_num, Lib.hid (by rw [HNL.out]; exact HX2.out), Lib.hid (HB.out.grown (grown_setCell _ _ _ _) HB.out.size (fun k hk => by cases hk; exact Nat.le_refl _))⟩
      · have hyk : ¬ y = k := fun h => hal (HYI.out.1 h)
        have d1 : ((y : Int) == (k : Int)) = false := by rw [beq_eq_false_iff_ne]; omega
        have HNL : Hid (nmL s (k + 1) = nmL s k) := Lib.hid (nmL_dead hal)
        have HNK : Hid (num s (k + 1) = num s k) := Lib.hid (by
          unfold num
          rw [livTo_succ, if_neg hal])
        clear hal hyk
        go_wp2_with fail
        go_roundg (s.t.length - (k + 1))
        case measure => have := HGK.out; omega
        case rel => exact ⟨k + 1, by go_num, rfl, by omega, by rw [HNK.out], Lib.hid (by rw [HNL.out]; exact HX.out), HB⟩
    · obtain rfl : k = s.t.length := by omega
      rename World => W2
      clear hlt
      have HST : Hid (OutSt 22 (fun _ => False) W2 W2 (.slice none 0 0) (tabTo s 0)) := Lib.hid (OutSt.nil 22 (Below.refl _ _))
      have HXN := HX
      have HBN := HB
      go_wp2_with fail
      go_loopg [6, 9] s.t.length (fun n v i wr => ∃ k : Nat, i = .int .i64 (k : Int) ∧ n = s.t.length - k ∧ k ≤ s.t.length ∧ ∃ (F : Nat → Prop) (A : Option Addr) (c : Nat), v = .slice A (tabTo s k).length c ∧ Hid (OutSt 22 F W2 wr (.slice A (tabTo s k).length c) (tabTo s k)))
      case atStart => exact ⟨0, rfl, by omega, Nat.zero_le _, _, none, 0, rfl, HST⟩
      case round =>
        clear HST HX HB HGK hnk hnk0 hnk1 hk0 hk hrowsk
        obtain ⟨k, rfl, hgk, hk, F, A, cA, rfl, HO⟩ := hrel
        have HGK := Lib.hid hgk
        clear hgk
        have hk0 : (0 : Int) ≤ (k : Int) := Int.natCast_nonneg _
        have HBK := Lib.hid (HBN.out.trans (HO.out.below.mono HBN.out.size))
        have a1 := HVO.out _ HBK.out
        by_cases hlt : k < s.t.length
        · have hltI : (k : Int) < (s.t.length : Int) := by omega
          obtain ⟨y, gp, cp, p1, p2, hyi⟩ := (HS.out.below HBK.out).live hlt
          have HYI := Lib.hid hyi
          clear hyi
          by_cases hal : s.rp k = k
          · obtain rfl : y = k := HYI.out.2 hal
            have d1 : ((y : Int) != (y : Int)) = false := by simp
            have HTL : Hid (tabTo s (y + 1) = tabTo s y ++ [(s.t.row y).map fun v => (num s v.toNat : Int)]) := Lib.hid (tabTo_live hal)
            have HRW : Hid (∀ c, c < 2 * g → ∃ z : Nat, s.t.at y c = (z : Int) ∧ z < s.t.length ∧ s.rp z = z) := Lib.hid fun c hc => by
              have h0 := HC.out y hlt hlt c hc
              rw [hal] at h0
              obtain ⟨z, hz⟩ := Int.eq_ofNat_of_zero_le h0
              obtain ⟨-, h2, h3⟩ := HG.out.rest.live hlt hc (show Ct.Edge s.t y c z from hz)
              exact ⟨z, hz, h3, h2⟩
            have HRL := Lib.hid (HG.out.rest.inv.len y hlt)
            have HRB : Hid (∀ v ∈ s.t.row y, v.toNat ≤ s.t.length) := Lib.hid fun v hv => by
              obtain ⟨c, hc, rfl⟩ := List.mem_iff_getElem.1 hv
              obtain ⟨z, hz, hz1, -⟩ := HRW.out c (by rw [← HG.out.rest.inv.len y hlt]; exact hc)
              unfold Tb.at at hz
              rw [List.getD_eq_getElem?_getD, List.getElem?_eq_getElem hc] at hz
              simp at hz
              omega
            have HTK := Lib.hid (length_tabTo s y)
            have HLK := Lib.hid (livTo_le s y)
            have HRN := Lib.hid HO.out.row_nil
            have HYL := Lib.hid hlt
            clear hal
            go_wp2_with fail
            go_loopg [10, 11] (2 * g) (fun n v i wx => ∃ (c : Nat) (A6 : Option Addr) (c6 : Nat), i = .int .i64 (c : Int) ∧ n = 2 * g - c ∧ c ≤ 2 * g ∧ v = .slice A6 c c6 ∧ Hid (OutSt2 22 F W2 wx (.slice A (tabTo s y).length cA) (.slice A6 c c6) (tabTo s y) (((s.t.row y).take c).map (fun v => (num s v.toNat : Int)))))
            case atStart => exact ⟨0, none, 0, rfl, by omega, Nat.zero_le _, rfl, HRN⟩
            case round =>
              clear HRN
              obtain ⟨c, A6, c6, rfl, hgc, hc, rfl, HO4⟩ := hrel
              have HGC := Lib.hid hgc
              clear hgc
              have hc0 : (0 : Int) ≤ (c : Int) := Int.natCast_nonneg _
              have HBX := Lib.hid (HBN.out.trans (HO4.out.st.below.mono HBN.out.size))
              have b1 := HVO.out _ HBX.out
              have b2 := HV1.out _ HBX.out y HYL.out
              by_cases hcg : c < 2 * g
              · have hcI : (c : Int) < 2 * (g : Int) := by omega
                obtain ⟨z, hz, hz1, hz2⟩ := HRW.out c hcg
                have b3 := HV2.out _ HBX.out y c HYL.out hcg
                rw [hz] at b3
                have hx2 := (HXN.out.below HO4.out.st.below).cell (k := z) (by rw [length_nmL]; exact hz1)
                rw [nmL_getD s _ hz1, if_pos ⟨hz1, hz2⟩] at hx2
                have hxl : (((s.t.row y).take c).map (fun v => (num s v.toNat : Int))).length = c := by rw [List.length_map, List.length_take, HRL.out]; omega
                obtain ⟨A8, c8, w8, hr8, hS8⟩ := HO4.out.add (by decide) 22 Tryz.underlying22 (num s z : Int) (by rw [hxl]; omega)
                have hsn := map_take_succ (f := fun v => (num s v.toNat : Int)) (show c < (s.t.row y).length by rw [HRL.out]; exact hcg)
                have hzz : (s.t.row y).getD c 0 = (z : Int) := hz
                rw [hzz] at hsn
                simp only [Int.toNat_natCast] at hsn
                rw [← hsn, hxl] at hS8
                rw [hxl] at hr8
                have HR8 := Lib.hid hr8
                have HS8 := Lib.hid hS8
                have hz0 : (0 : Int) ≤ (z : Int) := Int.natCast_nonneg _
                have hzI : (z : Int) < (s.t.length : Int) := by omega
                clear hr8 hS8 hsn hzz hz hxl
                generalize bl y = by' at *
                generalize cs y = cy at *
                go_wp2_with ((with_reducible refine wpList_sel 87 ?_); refine wpList_val rfl (r_app (.tmp 72) (.tmp 86) 22 rfl rfl rfl HR8.out) ?_)
                go_roundg (2 * g - (c + 1))
                case measure => have := HGC.out; omega
                case rel => exact ⟨c + 1, A8, c8, by go_num, rfl, by omega, rfl, HS8⟩
              · obtain rfl : c = 2 * g := by omega
                have hS := HO4.out
                rw [List.take_of_length_le (by rw [HRL.out]; exact Nat.le_refl _)] at hS
                obtain ⟨A8, c8, w8, hr8, hS8⟩ := hS.done (by decide) Tryz.underlying29 info24p (fits_tab HG.out (by omega) _ HRB.out) (by have := HTK.out; have := HLK.out; omega)
                rw [← HTL.out] at hS8
                have hlen : (tabTo s (y + 1)).length = (tabTo s y).length + 1 := by rw [HTL.out]; simp
                rw [← hlen] at hr8 hS8
                have HR8 := Lib.hid hr8
                have HS8 := Lib.hid hS8
                clear hr8 hS8 hS hlen
                generalize bl y = by' at *
                generalize cs y = cy at *
                go_wp2_with ((with_reducible refine wpList_sel 91 ?_); refine wpList_val rfl (r_app (.tmp 88) (.tmp 90) 29 rfl rfl rfl HR8.out) ?_)
                go_roundg (s.t.length - (y + 1))
                case measure => have := HGK.out; omega
                case rel => exact ⟨y + 1, by go_num, rfl, by omega, _, A8, c8, rfl, HS8⟩
          · have hyk : ¬ y = k := fun h => hal (HYI.out.1 h)
            have d1 : ((y : Int) != (k : Int)) = true := by simp; omega
            have HTL : Hid (tabTo s (k + 1) = tabTo s k) := Lib.hid (tabTo_dead hal)
            clear hal hyk
            go_wp2_with fail
            go_roundg (s.t.length - (k + 1))
            case measure => have := HGK.out; omega
            case rel =>
              have h1 := HO.out
              have h2 := HTL.out
              rw [← h2] at h1 ⊢
              exact ⟨k + 1, by go_num, rfl, by omega, F, A, cA, rfl, Lib.hid h1⟩
        · obtain rfl : k = s.t.length := by omega
          clear hlt
          have HT : Hid (Tab _ (.slice A (tabTo s s.t.length).length cA) (tabS s)) := Lib.hid HO.out.out.tab
          have H49 : Hid (Calls Tryz.prog 80 #[.int .i64 (g : Int), .slice A (tabTo s s.t.length).length cA, .int .i64 0] _ (StdPostB g (tabS s) 0 _)) := Lib.hid (std49_goodB _ _ g (tabS s) 0 HT.out HTS.out.1 (by have := HTS.out.1.n1; omega))
          go_wp2_with (first
            | (go_at_call 80; (refine H49.out.mono ?_); rintro E w5 ⟨⟨u5, rfl, ht5⟩, hb5⟩
               have HT5 := Lib.hid (ht5.mono HBK.out.size)
               have HB5 := Lib.hid (HBK.out.trans (hb5.mono HBK.out.size))
               clear ht5 hb5))
          go_ret
          exact ⟨_, rfl, HT5.out, HB5.out⟩
end Go.Proofs
