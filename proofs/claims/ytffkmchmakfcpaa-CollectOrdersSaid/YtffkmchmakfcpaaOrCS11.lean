/- (*coset.state).fill; (*coset.state).run; (*coset.state).table; (*coset.state).table: the walk; coset.Enumerate: its results' cells, and the closure that it defers. -/
import Derived.Test.YtffkmchmakfcpaaOrCS10
import Derived.Deep.CutBlock
import Derived.Deep.LoopGhost
import Derived.Defers
import Derived.Recover
namespace Go.Proofs.B18
open Go.RowKit Go.Shelf Go.Proofs.Ct Go.Maps
/-- the rows, counted in memory -/
def rowsIn (b : Nat) (w : World) : Nat := match w.cell? ⟨b, 2, none⟩ with
  | some (.slice _ n _) => n
  | _ => 0
theorem StP.rowsIn {base b m lim : Nat} {w : World} {s : St} (h : StP base b m lim w s) : rowsIn b w = s.t.length := by
  obtain ⟨-, P, vr, vp, vq, bl, cs, hB, hC⟩ := h
  obtain ⟨A, c, rfl⟩ := owns_form hC.out
  unfold Go.Proofs.B18.rowsIn
  rw [hB.cells.2.2.1]
set_option maxRecDepth 100000 in
set_option maxHeartbeats 4000000 in
theorem fill125_any (g m base b lim r : Nat) (hm : m = 2 * g) (hg : g ≤ 16) (w : World) (s : St) (u : Value) (ws : W) (hR : Ct.Rest g s) (hS : StP base b m lim w s) (hbw : base ≤ w.heap.size) (hlim : lim ≤ 999999) (hn : s.t.length ≤ lim) (hu : ∀ W, Below base w W → IntsAt W u ws) (hl : LOk g ws) (hr : r < s.t.length) (hlr : s.rp r = r) :
    Calls Try.prog 101 #[.pointer (some ⟨b, 0, none⟩), .int .i64 (r : Int), u] w fun e w' => ((∃ s', fillS m lim s r ws = some s' ∧ e = .returned (.tuple #[]) ∧ StP base b m lim w' s') ∨ (fillS m lim s r ws = none ∧ e = .panicked fullP)) ∧ Below base w w' := by
  have HREL : Hid (StP base b m lim w s ∧ Ct.Rest g s ∧ s.t.length ≤ lim ∧ r < s.t.length ∧ s.rp r = r ∧ fillS m lim s r ws = fillS m lim s r ws) := Lib.hid ⟨hS, hR, hn, hr, hlr, rfl⟩
  generalize hfe : fillS m lim s r ws = F at *
  have HBW := Lib.hid hbw
  have HUU := Lib.hid hu
  have HL := Lib.hid hl
  have HM := Lib.hid hm
  clear hR hS hu hl hlr hn hr hbw
  have HF := Lib.hid hfe
  clear hfe
  go_enter Try.func101, Try.ntmps101
  go_wp2_with fail
  go_loopw [6] (fun f wr => ∃ s1 : St, Hid (StP base b m lim wr s1 ∧ Ct.Rest g s1 ∧ s1.t.length ≤ lim ∧ r < s1.t.length ∧ s1.rp r = r) ∧ Hid (fillS m lim s1 r ws = F) ∧ Hid (Below base w wr)) (fun _ wr => lim + 1 - rowsIn b wr)
  case atStart => exact ⟨s, Lib.hid ⟨HREL.out.1, HREL.out.2.1, HREL.out.2.2.1, HREL.out.2.2.2.1, HREL.out.2.2.2.2.1⟩, HF, Lib.hid (Below.refl _ _)⟩
  case round =>
    obtain ⟨s1, HI, HF1, HB⟩ := hrel
    clear HREL HF
    obtain ⟨h1, h2, h3, h4, h5⟩ := HI.out
    obtain ⟨k1, k2⟩ := scan_rest h2 h4 h5 HL.out
    rw [← HM.out] at k1 k2
    have hstep := fillS_step (m := m) (r := r) (w := ws) h3
    rw [HF1.out] at hstep
    have HSC := Lib.hid (scan147_any g m base b lim r HM.out hg wr s1 u ws h2 h1 (Nat.le_trans HBW.out HB.out.size) (by omega) (HUU.out wr HB.out) HL.out h4 h5)
    cases hsc : scanS m s1 r ws with
    | mk s2 o =>
      rw [hsc] at HSC hstep
      cases o with
      | none =>
        have HE : Hid (F = some s2) := Lib.hid hstep
        have HSC' : Hid (Calls Try.prog 110 #[.pointer (some ⟨b, 0, none⟩), .int .i64 (r : Int), u] wr fun e w' => e = .returned (.tuple #[.int .i64 0, .int .i64 0, .bool false]) ∧ StP base b m lim w' s2 ∧ Below base wr w') := Lib.hid HSC.out
        clear k1 k2 hstep HSC h1 h2 h3 h4 h5 hsc
        go_wp2_with (first
          | (go_at_call 110; (with_reducible refine HSC'.out.mono ?_); rintro E w1 ⟨rfl, hs1, hb1⟩
             have HS1 := Lib.hid hs1
             have HB1 := Lib.hid hb1
             clear hs1 hb1))
        refine bodyPost_ret (results_none rfl _ _ _) rfl ?_
        exact ⟨.inl ⟨s2, HE.out, rfl, HS1.out⟩, HB.out.trans HB1.out⟩
      | some fc =>
        obtain ⟨f, c⟩ := fc
        obtain ⟨rfl, j1, j2, j3, j4⟩ := k2 _ _ _ hsc
        have HSC' : Hid (Calls Try.prog 110 #[.pointer (some ⟨b, 0, none⟩), .int .i64 (r : Int), u] wr fun e w' => e = .returned (.tuple #[.int .i64 (f : Int), .int .i64 (c : Int), .bool true]) ∧ StP base b m lim w' s2 ∧ Below base wr w') := Lib.hid HSC.out
        have hcm : c < m := by rw [HM.out]; rw [← HM.out]; exact j2
        by_cases hfull : s2.t.length = lim
        · have HE : Hid (F = none) := Lib.hid (by rw [hstep]; exact if_pos hfull)
          have HD : Hid (∀ W, StP base b m lim W s2 → base ≤ W.heap.size → Calls Try.prog 104 #[.pointer (some ⟨b, 0, none⟩), .int .i64 (f : Int), .int .i64 (c : Int)] W fun e w' => e = .panicked fullP ∧ Below base W w') := Lib.hid fun W h hw => by
            subst hfull
            exact define128_full m base b f c W s2 h hw (by omega)
          clear k1 k2 hstep HSC h1 h2 h3 h4 h5 hsc j1 j2 j3 j4 hfull hcm
          go_wp2_with (first
            | (go_at_call 110; (with_reducible refine HSC'.out.mono ?_); rintro E w1 ⟨rfl, hs1, hb1⟩
               have HS1 := Lib.hid hs1
               have HB1 := Lib.hid (HB.out.trans hb1)
               clear hs1 hb1)
            | (go_at_call 104; (with_reducible refine (HD.out _ HS1.out (Nat.le_trans HBW.out HB1.out.size)).mono ?_); rintro E w2 ⟨rfl, hb2⟩
               have HB2 := Lib.hid (HB1.out.trans hb2)
               clear hb2))
          exact ⟨rfl, .inr ⟨HE.out, rfl⟩, HB2.out⟩
        · have HE : Hid (fillS m lim (defS m s2 f c) r ws = F) := Lib.hid (by rw [hstep]; exact (if_neg hfull).symm)
          have HD : Hid (∀ W, StP base b m lim W s2 → base ≤ W.heap.size → Calls Try.prog 104 #[.pointer (some ⟨b, 0, none⟩), .int .i64 (f : Int), .int .i64 (c : Int)] W fun e w' => e = .returned (.tuple #[]) ∧ StP base b m lim w' (defS m s2 f c) ∧ Below base W w') := Lib.hid fun W h hw =>
            define128_any g m base b lim f c HM.out hg W s2 h2 h hw (by omega) j1 hcm hfull
          have HN : Hid (Ct.Rest g (defS m s2 f c) ∧ (defS m s2 f c).t.length ≤ lim ∧ r < (defS m s2 f c).t.length ∧ (defS m s2 f c).rp r = r) := Lib.hid ⟨by
            have := (h2.defn (r := f) (c := c) j1 (by rw [← HM.out]; exact hcm) j3 j4).1
            rw [← HM.out] at this
            exact this, by rw [length_def]; omega, by rw [length_def]; omega, by rw [rp_def_old h2.inv m f c h4]; exact h5⟩
          have HRW : Hid (rowsIn b wr = s2.t.length) := Lib.hid h1.rowsIn
          have HLEN : Hid ((defS m s2 f c).t.length = s2.t.length + 1) := Lib.hid (length_def m f c)
          have HLT : Hid (s2.t.length ≤ lim) := Lib.hid h3
          clear k1 k2 hstep HSC h1 h2 h3 h4 h5 hsc j1 j2 j3 j4 hfull hcm HI
          generalize defS m s2 f c = s9 at *
          go_wp2_with (first
            | (go_at_call 110; (with_reducible refine HSC'.out.mono ?_); rintro E w1 ⟨rfl, hs1, hb1⟩
               have HS1 := Lib.hid hs1
               have HB1 := Lib.hid (HB.out.trans hb1)
               clear hs1 hb1)
            | (go_at_call 104; (with_reducible refine (HD.out _ HS1.out (Nat.le_trans HBW.out HB1.out.size)).mono ?_); rintro E w2 ⟨rfl, hs2, hb2⟩
               have HS2 := Lib.hid hs2
               have HB2 := Lib.hid (HB1.out.trans hb2)
               clear hs2 hb2))
          go_roundw
          case rel => exact ⟨s9, Lib.hid ⟨HS2.out, HN.out.1, HN.out.2.1, HN.out.2.2.1, HN.out.2.2.2⟩, HE, HB2⟩
          case measure =>
            show lim + 1 - rowsIn b w2 < lim + 1 - rowsIn b wr
            rw [HRW.out, HS2.out.rowsIn, HLEN.out]
            have := HLT.out
            omega
end Go.Proofs.B18
namespace Go.Proofs.B18
open Go.RowKit Go.Shelf Go.Proofs.Ct Go.Maps
end Go.Proofs.B18
namespace Go.Proofs.Ct
open Go.Proofs.B18
theorem opt_stop {α : Type} {f : Nat → α → Option α} {s s' : α} {k : Nat} (h : optTo f k s = some s') (hf : ∀ i, k ≤ i → f i s' = some s') : ∀ n, k ≤ n → optTo f n s = some s'
  | 0, hn => by rw [show k = 0 by omega] at h; exact h
  | n + 1, hn => by
    by_cases e : k = n + 1
    · rw [← e]; exact h
    · rw [optTo_succ, opt_stop h hf n (by omega)]; exact hf n (by omega)
theorem relS_dead {m lim : Nat} {rels : List W} {r i : Nat} {s : St} (h : s.rp r ≠ r) : relS m lim rels r i s = some s := if_neg h
theorem colS_dead {m lim r c : Nat} {s : St} (h : s.rp r ≠ r) : colS m lim r c s = some s := if_neg fun h' => h h'.1
theorem rowsS_stop {m lim : Nat} {rels : List W} {r : Nat} {s : St} (h : s.t.length ≤ r) : rowsS m lim rels r s = some s := if_neg (by omega)
end Go.Proofs.Ct
namespace Go.Proofs.B18
open Go.RowKit Go.Shelf Go.Proofs.Ct Go.Maps
theorem StP.rows {base b m lim : Nat} {w : World} {s : St} (h : StP base b m lim w s) : ∃ A c, w.cell? ⟨b, 2, none⟩ = some (.slice A s.t.length c) := by
  obtain ⟨-, P, vr, vp, vq, bl, cs, hB, hC⟩ := h
  obtain ⟨A, c, rfl⟩ := owns_form hC.out
  exact ⟨A, c, hB.cells.2.2.1⟩
/-- the lists of words that are handed in, whatever the call has written since -/
def Words (base : Nat) (w : World) (v : Value) (l : List W) : Prop := ∃ w0, w0.heap.size = base ∧ Tab w0 v l ∧ Below base w0 w
theorem Words.tab {base : Nat} {w : World} {v : Value} {l : List W} (h : Words base w v l) {W : World} (hb : Below base w W) : Tab W v l := by
  obtain ⟨w0, rfl, ht, h0⟩ := h
  exact kept_tab.below ht (h0.trans hb)
theorem Words.at_ {base : Nat} {w : World} {v : Value} {l : List W} (h : Words base w v l) {k : Nat} (hk : k < l.length) : ∃ b o c u, v = .slice (some ⟨b, o, none⟩) l.length c ∧ ∀ W, Below base w W → W.cell? ⟨b, o + k, none⟩ = some u ∧ IntsAt W u (l.getD k []) := by
  obtain ⟨w0, rfl, ht, h0⟩ := h
  obtain ⟨A, c, rfl, -, -, h3⟩ := ht.open_
  obtain ⟨b, o, rfl, h4⟩ := h3 (by omega)
  obtain ⟨u, hu, hI⟩ := h4 k hk
  exact ⟨b, o, c, u, rfl, fun W hW => ⟨((h0.trans hW).cell (p := ⟨b, o + k, none⟩) (World.block_lt_of_cell? w0 _ hu)).trans hu, kept_ints.below hI (h0.trans hW)⟩⟩
set_option maxRecDepth 100000 in
set_option maxHeartbeats 4000000 in
theorem run85_any (g m base b lim : Nat) (hm : m = 2 * g) (hg : g ≤ 16) (w : World) (vr vs : Value) (rels sub : List W) (hS : StP base b m lim w nilS) (hbw : base ≤ w.heap.size) (hlim : lim ≤ 999999) (h1 : 1 ≤ lim) (hr : Words base w vr rels) (hs : Words base w vs sub) (hlr : ∀ j, LOk g (rels.getD j [])) (hls : ∀ j, LOk g (sub.getD j [])) :
    Calls Try.prog 90 #[.pointer (some ⟨b, 0, none⟩), vr, vs] w fun e w' => ((∃ s', runS m lim rels sub = some s' ∧ e = .returned (.tuple #[]) ∧ StP base b m lim w' s') ∨ (runS m lim rels sub = none ∧ e = .panicked fullP)) ∧ Below base w w' := by
  have HA : Hid (Calls Try.prog 102 #[.pointer (some ⟨b, 0, none⟩)] w fun e w' => e = .returned (.int .i64 0) ∧ StP base b m lim w' (startS m) ∧ Below base w w') := Lib.hid (add126_any g m base b lim (by omega) w nilS (by
    refine ⟨?_, ?_, rfl, ?_, ?_, ?_⟩ <;> intro x hx <;> exact absurd hx (Nat.not_lt_zero _)) hS hbw (by decide) (by decide) (by decide) (by show 0 ≠ lim; omega))
  have HBW := Lib.hid hbw
  obtain ⟨Ar, cr, rfl, hra, hrc, -⟩ := (hr.tab (Below.refl _ _)).open_
  obtain ⟨As, cs, rfl, hsa, hsc, -⟩ := (hs.tab (Below.refl _ _)).open_
  clear hS hbw
  have HG0 : Hid (Ct.Good g lim (startS m)) := Lib.hid (by rw [hm]; exact start_good h1)
  have HFQ : Hid (runS m lim rels sub = (optTo (subS m lim sub) sub.length (startS m)).bind (optTo (rowsS m lim rels) lim)) := Lib.hid rfl
  generalize runS m lim rels sub = F at *
  have hsb : (0 : Int) ≤ (sub.length : Int) := Int.natCast_nonneg _
  have hsb2 : (sub.length : Int) ≤ 9223372036854775807 := by omega
  have HRW := Lib.hid hr
  have HSW := Lib.hid hs
  clear hr hs
  go_enter Try.func90, Try.ntmps90
  go_wp2_with (first
    | (go_at_call 102; (with_reducible refine HA.out.mono ?_); rintro E w1 ⟨rfl, hs1, hb1⟩
       have HS1 := Lib.hid hs1
       have HB1 := Lib.hid hb1
       clear hs1 hb1))
  go_loopw [19] (fun i wr => ∃ (k : Nat) (s1 : St), i = .int .i64 (k : Int) ∧ k ≤ sub.length ∧ Hid (optTo (subS m lim sub) k (startS m) = some s1 ∧ Ct.Good g lim s1 ∧ StP base b m lim wr s1) ∧ Hid (Below base w wr)) (fun i _ => sub.length - (intOf i).toNat)
  case atStart => exact ⟨0, startS m, rfl, Nat.zero_le _, Lib.hid ⟨rfl, HG0.out, HS1.out⟩, HB1⟩
  case round =>
    clear HA HS1 HB1 HG0
    obtain ⟨k, s1, rfl, hk, HI, HB⟩ := hrel
    have hk0 : (0 : Int) ≤ (k : Int) := Int.natCast_nonneg _
    by_cases hlt : k < sub.length
    · have hltI : (k : Int) < (sub.length : Int) := by omega
      obtain ⟨bs, os, c', u, e, hcell⟩ := HSW.out.at_ hlt
      injection e with e1 e2 e3
      subst e1 e3
      have hck := (hcell wr HB.out).1
      have hgd := HI.out.2.1
      have HFI : Hid (Calls Try.prog 101 #[.pointer (some ⟨b, 0, none⟩), .int .i64 0, u] wr fun e w' => ((∃ s', fillS m lim s1 0 (sub.getD k []) = some s' ∧ e = .returned (.tuple #[]) ∧ StP base b m lim w' s') ∨ (fillS m lim s1 0 (sub.getD k []) = none ∧ e = .panicked fullP)) ∧ Below base wr w') := Lib.hid (fill125_any g m base b lim 0 hm hg wr s1 u (sub.getD k []) hgd.rest HI.out.2.2 (Nat.le_trans HBW.out HB.out.size) hlim hgd.n2 (fun W h => (hcell W (HB.out.trans h)).2) (hls k) (by have := hgd.n1; omega) (Ct.rp_zero hgd.rest (by have := hgd.n1; omega)))
      have HOP : Hid (optTo (subS m lim sub) (k + 1) (startS m) = fillS m lim s1 0 (sub.getD k [])) := Lib.hid (by rw [optTo_succ, HI.out.1]; rfl)
      clear hcell hgd
      generalize hfs : fillS m lim s1 0 (sub.getD k []) = fs at *
      have HFS := Lib.hid hfs
      clear hfs
      cases fs with
      | none =>
        have HE : Hid (F = none) := Lib.hid (by rw [HFQ.out, optTo_none HOP.out sub.length (by omega)]; rfl)
        have HFI' := Lib.hid (HFI.out.mono (R' := fun E w2 => E = .panicked fullP ∧ Below base wr w2) fun E w2 ⟨h, hb⟩ => ⟨by
          rcases h with ⟨s', e, -⟩ | ⟨-, h⟩
          · cases e
          · exact h, hb⟩)
        clear HFI
        go_wp2_with (first
          | (go_at_call 101; (with_reducible refine HFI'.out.mono ?_); rintro E w2 ⟨rfl, hb2⟩
             have HB2 := Lib.hid (HB.out.trans hb2)
             clear hb2))
        exact ⟨rfl, .inr ⟨HE.out, rfl⟩, HB2.out⟩
      | some s2 =>
        have HG2 : Hid (Ct.Good g lim s2) := Lib.hid (by
          have := HFS.out
          rw [hm] at this
          exact (fill_good HI.out.2.1 (by have := HI.out.2.1.n1; omega) (Ct.rp_zero HI.out.2.1.rest (by have := HI.out.2.1.n1; omega)) (hls k) this).1)
        have HFI' := Lib.hid (HFI.out.mono (R' := fun E w' => E = .returned (.tuple #[]) ∧ StP base b m lim w' s2 ∧ Below base wr w') fun E w2 ⟨h, hb⟩ => by
          rcases h with ⟨s', e, h1, h2⟩ | ⟨e, -⟩
          · cases e
            exact ⟨h1, h2, hb⟩
          · cases e)
        clear HFI
        go_wp2_with (first
          | (go_at_call 101; (with_reducible refine HFI'.out.mono ?_); rintro E w2 ⟨rfl, hs2, hb2⟩
             have HB2 := Lib.hid (HB.out.trans hb2)
             have HS2 := Lib.hid hs2
             clear hb2 hs2))
        go_roundw
        case rel => exact ⟨k + 1, s2, by go_num, by omega, Lib.hid ⟨HOP.out, HG2.out, HS2.out⟩, HB2⟩
        case measure => simp [intOf]; omega
    · obtain rfl : k = sub.length := by omega
      have HFR : Hid (F = optTo (rowsS m lim rels) lim s1) := Lib.hid (by rw [HFQ.out, HI.out.1]; rfl)
      clear hlt
      go_wp2_with fail
      go_loopg [9] (lim + 1) (fun n i wr => ∃ (k : Nat) (s2 : St), i = .int .i64 (k : Int) ∧ n = lim + 1 - k ∧ k ≤ s2.t.length ∧ Hid (optTo (rowsS m lim rels) k s1 = some s2 ∧ Ct.Good g lim s2 ∧ StP base b m lim wr s2) ∧ Hid (Below base w wr))
      case atStart => exact ⟨0, s1, rfl, by omega, Nat.zero_le _, Lib.hid ⟨rfl, HI.out.2.1, HI.out.2.2⟩, HB⟩
      case round =>
        clear HI HB
        obtain ⟨k, s2, rfl, hgk, hk2, HI, HB⟩ := hrel
        have hk0 : (0 : Int) ≤ (k : Int) := Int.natCast_nonneg _
        obtain ⟨A2, c2, hc2⟩ := HI.out.2.2.rows
        have hn2 : s2.t.length ≤ lim := HI.out.2.1.n2
        have HGK := Lib.hid hgk
        clear hgk
        by_cases hlt : k < s2.t.length
        · have HKL := Lib.hid hlt
          have hltI : (k : Int) < (s2.t.length : Int) := by omega
          clear hlt
          go_upto_block 4 with fail
          go_cut [] from 38 to 50 (fun wx => ∃ s3, Hid (optTo (relS m lim rels k) rels.length s2 = some s3 ∧ StP base b m lim wx s3) ∧ Hid (Below base w wx))
          case first =>
            go_wp2_with fail
            have hrb : (0 : Int) ≤ (rels.length : Int) := Int.natCast_nonneg _
            have hrb2 : (rels.length : Int) ≤ 9223372036854775807 := by omega
            go_loopg [38] rels.length (fun n i wx => ∃ (j : Nat) (s3 : St), i = .int .i64 (j : Int) ∧ n = rels.length - j ∧ j ≤ rels.length ∧ Hid (optTo (relS m lim rels k) j s2 = some s3 ∧ StP base b m lim wx s3) ∧ Hid (Below base w wx))
            case atStart => exact ⟨0, s2, rfl, by omega, Nat.zero_le _, Lib.hid ⟨rfl, HI.out.2.2⟩, HB⟩
            case round =>
              obtain ⟨j, s3, rfl, hgj, hj, HI3, HB3⟩ := hrel
              have hj0 : (0 : Int) ≤ (j : Int) := Int.natCast_nonneg _
              have HGJ := Lib.hid hgj
              clear hgj
              have HG3 : Hid (Ct.Good g lim s3 ∧ Ext g s2 s3) := Lib.hid (by
                have := HI3.out.1
                rw [hm] at this
                exact rel_good (fun j _ => hlr j) HI.out.2.1 HKL.out this)
              have hk3 : k < s3.t.length := Nat.lt_of_lt_of_le HKL.out HG3.out.2.n
              by_cases hjl : j < rels.length
              · have hjlI : (j : Int) < (rels.length : Int) := by omega
                obtain ⟨bs, os, c', u, e, hcell⟩ := HRW.out.at_ hjl
                injection e with e1 e2 e3
                subst e1 e3
                have hck := (hcell _ HB3.out).1
                have HAL := Lib.hid (alive127_any g base b m lim k _ s3 HI3.out.2 hk3)
                by_cases hal : s3.rp k = k
                · have HAT : Hid (decide (s3.rp k = k) = true) := Lib.hid (by simp [hal])
                  have HFI := Lib.hid (fun W (h : StP base b m lim W s3) (hb : Below base w W) => fill125_any g m base b lim k hm hg W s3 u (rels.getD j []) HG3.out.1.rest h (Nat.le_trans HBW.out hb.size) hlim HG3.out.1.n2 (fun W' h' => (hcell W' (hb.trans h')).2) (hlr j) hk3 hal)
                  have HOP : Hid (optTo (relS m lim rels k) (j + 1) s2 = fillS m lim s3 k (rels.getD j [])) := Lib.hid (by
                    rw [optTo_succ, HI3.out.1]
                    exact if_pos hal)
                  clear hcell hal
                  generalize hfs : fillS m lim s3 k (rels.getD j []) = fs at *
                  have HFS := Lib.hid hfs
                  clear hfs
                  cases fs with
                  | none =>
                    have HE : Hid (F = none) := Lib.hid (by
                      rw [HFR.out]
                      refine optTo_none (k := k + 1) ?_ lim (by have := HKL.out; omega)
                      rw [optTo_succ, HI.out.1]
                      show rowsS m lim rels k s2 = none
                      unfold rowsS rowS
                      rw [if_pos HKL.out, optTo_none HOP.out rels.length (by omega)]
                      rfl)
                    have HFI' := Lib.hid (fun W h hb => (HFI.out W h hb).mono (R' := fun E w2 => E = .panicked fullP ∧ Below base W w2) fun E w2 ⟨h, hb⟩ => ⟨by
                      rcases h with ⟨s', e, -⟩ | ⟨-, h⟩
                      · cases e
                      · exact h, hb⟩)
                    clear HFI
                    go_wp2_with (first
                      | (go_at_call 103; (with_reducible refine HAL.out.mono ?_); rintro E w2 ⟨rfl, rfl⟩; rw [HAT.out])
                      | (go_at_call 101; (with_reducible refine (HFI'.out _ HI3.out.2 HB3.out).mono ?_); rintro E w2 ⟨rfl, hb2⟩
                         have HB2 := Lib.hid (HB3.out.trans hb2)
                         clear hb2))
                    exact ⟨rfl, .inr ⟨HE.out, rfl⟩, HB2.out⟩
                  | some s4 =>
                    have HFI' := Lib.hid (fun W h hb => (HFI.out W h hb).mono (R' := fun E w' => E = .returned (.tuple #[]) ∧ StP base b m lim w' s4 ∧ Below base W w') fun E w2 ⟨h, hb⟩ => by
                      rcases h with ⟨s', e, h1, h2⟩ | ⟨e, -⟩
                      · cases e
                        exact ⟨h1, h2, hb⟩
                      · cases e)
                    clear HFI
                    go_wp2_with (first
                      | (go_at_call 103; (with_reducible refine HAL.out.mono ?_); rintro E w2 ⟨rfl, rfl⟩; rw [HAT.out])
                      | (go_at_call 101; (with_reducible refine (HFI'.out _ HI3.out.2 HB3.out).mono ?_); rintro E w2 ⟨rfl, hs2, hb2⟩
                         have HB2 := Lib.hid (HB3.out.trans hb2)
                         have HS2 := Lib.hid hs2
                         clear hb2 hs2))
                    go_roundg (rels.length - (j + 1))
                    case measure => have := HGJ.out; omega
                    case rel => exact ⟨j + 1, s4, by go_num, rfl, by omega, Lib.hid ⟨HOP.out, HS2.out⟩, HB2⟩
                · have HAT : Hid (decide (s3.rp k = k) = false) := Lib.hid (by simp [hal])
                  have HOP : Hid (optTo (relS m lim rels k) rels.length s2 = some s3) := Lib.hid (opt_stop HI3.out.1 (fun i _ => relS_dead hal) _ hj)
                  clear hcell hal
                  go_wp2_with (first
                    | (go_at_call 103; (with_reducible refine HAL.out.mono ?_); rintro E w2 ⟨rfl, rfl⟩; rw [HAT.out]))
                  go_meet
                  case rel => exact ⟨s3, Lib.hid ⟨HOP.out, HI3.out.2⟩, HB3⟩
              · obtain rfl : j = rels.length := by omega
                clear hjl
                go_wp2_with fail
                go_meet
                case rel => exact ⟨s3, HI3, HB3⟩
          case rest =>
            clear hc2
            obtain ⟨s3, HI3, HB3⟩ := hcut
            have HG3 : Hid (Ct.Good g lim s3 ∧ Ext g s2 s3) := Lib.hid (by
              have := HI3.out.1
              rw [hm] at this
              exact rel_good (fun j _ => hlr j) HI.out.2.1 HKL.out this)
            have hk3 : k < s3.t.length := Nat.lt_of_lt_of_le HKL.out HG3.out.2.n
            have HM := Lib.hid hm
            go_wp2_with fail
            go_loopg [12] m (fun n i wx => ∃ (c : Nat) (s4 : St), i = .int .i64 (c : Int) ∧ n = m - c ∧ c ≤ m ∧ Hid (optTo (colS m lim k) c s3 = some s4 ∧ StP base b m lim wx s4) ∧ Hid (Below base w wx))
            case atStart => exact ⟨0, s3, rfl, by omega, Nat.zero_le _, Lib.hid ⟨rfl, HI3.out.2⟩, HB3⟩
            case round =>
              obtain ⟨c, s4, rfl, hgc, hc, HI4, HB4⟩ := hrel
              have HGC := Lib.hid hgc
              clear hgc
              have hc0 : (0 : Int) ≤ (c : Int) := Int.natCast_nonneg _
              have HG4 : Hid (Ct.Good g lim s4 ∧ Ext g s3 s4) := Lib.hid (by
                have := HI4.out.1
                rw [HM.out] at this
                obtain ⟨a1, a2, -⟩ := col_good HG3.out.1 hk3 (by omega) this
                exact ⟨a1, a2⟩)
              have hk4 : k < s4.t.length := Nat.lt_of_lt_of_le hk3 HG4.out.2.n
              have hk4I : (k : Int) < (s4.t.length : Int) := by omega
              obtain ⟨hw0, -⟩ := HI4.out.2.width
              have HAL := Lib.hid (alive127_any g base b m lim k _ s4 HI4.out.2 hk4)
              have HEND : Hid (optTo (colS m lim k) m s3 = some s4 → optTo (rowsS m lim rels) (k + 1) s1 = some s4) := Lib.hid (fun h => by
                rw [optTo_succ, HI.out.1]
                show rowsS m lim rels k s2 = some s4
                unfold rowsS rowS
                rw [if_pos HKL.out, HI3.out.1]
                exact h)
              have HGE : Hid (k + 1 ≤ s4.t.length) := Lib.hid (by omega)
              by_cases hcm : c < m
              · have hcmI : (c : Int) < (m : Int) := by omega
                by_cases hal : s4.rp k = k
                · have HAT : Hid (decide (s4.rp k = k) = true) := Lib.hid (by simp [hal])
                  have HAH := Lib.hid hal
                  clear hal
                  obtain ⟨gr, cr4, br, kr, a1, a2, a3⟩ := HI4.out.2.at_ HG4.out.1.rest.inv hk4 (c := c) (by rw [← HM.out]; exact hcm)
                  rw [← HM.out] at a2
                  by_cases hneg : s4.t.at k c < 0
                  · by_cases hfull : s4.t.length = lim
                    · have HE : Hid (F = none) := Lib.hid (by
                        rw [HFR.out]
                        refine optTo_none (k := k + 1) ?_ lim (by have := HKL.out; omega)
                        rw [optTo_succ, HI.out.1]
                        show rowsS m lim rels k s2 = none
                        unfold rowsS rowS
                        rw [if_pos HKL.out, HI3.out.1]
                        refine optTo_none (k := c + 1) ?_ m (by omega)
                        rw [optTo_succ, HI4.out.1]
                        show colS m lim k c s4 = none
                        unfold colS
                        rw [if_pos ⟨HAH.out, hneg⟩, if_pos hfull])
                      have HD : Hid (∀ W, StP base b m lim W s4 → base ≤ W.heap.size → Calls Try.prog 104 #[.pointer (some ⟨b, 0, none⟩), .int .i64 (k : Int), .int .i64 (c : Int)] W fun e w' => e = .panicked fullP ∧ Below base W w') := Lib.hid fun W h hw => by
                        subst hfull
                        exact define128_full m base b k c W s4 h hw (by omega)
                      have HNG := Lib.hid hneg
                      have hd5 : decide (s4.t.at k c < 0) = true := decide_eq_true hneg
                      clear hfull
                      go_wp2_with (first
                        | (go_at_call 103; (with_reducible refine HAL.out.mono ?_); rintro E w2 ⟨rfl, rfl⟩; rw [HAT.out])
                        | (go_at_call 104; (with_reducible refine (HD.out _ HI4.out.2 (Nat.le_trans HBW.out HB4.out.size)).mono ?_); rintro E w2 ⟨rfl, hb2⟩
                           have HB2 := Lib.hid (HB4.out.trans hb2)
                           clear hb2))
                      exact ⟨rfl, .inr ⟨HE.out, rfl⟩, HB2.out⟩
                    · have HOP : Hid (optTo (colS m lim k) (c + 1) s3 = some (defS m s4 k c)) := Lib.hid (by
                        rw [optTo_succ, HI4.out.1]
                        show colS m lim k c s4 = _
                        unfold colS
                        rw [if_pos ⟨HAH.out, hneg⟩, if_neg hfull])
                      have HD : Hid (∀ W, StP base b m lim W s4 → base ≤ W.heap.size → Calls Try.prog 104 #[.pointer (some ⟨b, 0, none⟩), .int .i64 (k : Int), .int .i64 (c : Int)] W fun e w' => e = .returned (.tuple #[]) ∧ StP base b m lim w' (defS m s4 k c) ∧ Below base W w') := Lib.hid fun W h hw => by
                        exact define128_any g m base b lim k c HM.out hg W s4 HG4.out.1.rest h hw (by have := HG4.out.1.n2; omega) hk4 hcm hfull
                      clear hfull
                      go_wp2_with (first
                        | (go_at_call 103; (with_reducible refine HAL.out.mono ?_); rintro E w2 ⟨rfl, rfl⟩; rw [HAT.out])
                        | (go_at_call 104; (with_reducible refine (HD.out _ HI4.out.2 (Nat.le_trans HBW.out HB4.out.size)).mono ?_); rintro E w2 ⟨rfl, hs2, hb2⟩
                           have HS2 := Lib.hid hs2
                           have HB2 := Lib.hid (HB4.out.trans hb2)
                           clear hs2 hb2))
                      go_roundg (m - (c + 1))
                      case measure => have := HGC.out; omega
                      case rel => exact ⟨c + 1, _, by go_num, rfl, by omega, Lib.hid ⟨HOP.out, HS2.out⟩, HB2⟩
                  · have HOP : Hid (optTo (colS m lim k) (c + 1) s3 = some s4) := Lib.hid (by
                      rw [optTo_succ, HI4.out.1]
                      show colS m lim k c s4 = _
                      unfold colS
                      rw [if_neg fun h' => hneg h'.2])
                    go_wp2_with (first
                      | (go_at_call 103; (with_reducible refine HAL.out.mono ?_); rintro E w2 ⟨rfl, rfl⟩; rw [HAT.out]))
                    go_roundg (m - (c + 1))
                    case measure => have := HGC.out; omega
                    case rel => exact ⟨c + 1, s4, by go_num, rfl, by omega, Lib.hid ⟨HOP.out, HI4.out.2⟩, HB4⟩
                · have HAT : Hid (decide (s4.rp k = k) = false) := Lib.hid (by simp [hal])
                  have HFIN : Hid (optTo (rowsS m lim rels) (k + 1) s1 = some s4) := Lib.hid (HEND.out (opt_stop HI4.out.1 (fun i _ => colS_dead hal) _ hc))
                  clear hal
                  go_wp2_with (first
                    | (go_at_call 103; (with_reducible refine HAL.out.mono ?_); rintro E w2 ⟨rfl, rfl⟩; rw [HAT.out]))
                  go_roundg (lim + 1 - (k + 1))
                  case measure => have := HGK.out; have := HKL.out; omega
                  case rel => exact ⟨k + 1, s4, by go_num, rfl, HGE.out, Lib.hid ⟨HFIN.out, HG4.out.1, HI4.out.2⟩, HB4⟩
              · obtain rfl : c = m := by omega
                have HFIN : Hid (optTo (rowsS c lim rels) (k + 1) s1 = some s4) := Lib.hid (HEND.out HI4.out.1)
                clear hcm
                go_wp2_with fail
                go_roundg (lim + 1 - (k + 1))
                case measure => have := HGK.out; have := HKL.out; omega
                case rel => exact ⟨k + 1, s4, by go_num, rfl, HGE.out, Lib.hid ⟨HFIN.out, HG4.out.1, HI4.out.2⟩, HB4⟩
        · have HE : Hid (F = some s2) := Lib.hid (by
            rw [HFR.out]
            exact opt_stop HI.out.1 (fun i hi => rowsS_stop (by omega)) lim (by omega))
          clear hn2
          go_wp2_with fail
          go_end0
          exact ⟨.inl ⟨s2, HE.out, rfl, HI.out.2.2⟩, HB.out⟩
end Go.Proofs.B18
namespace Go.Proofs.Ct
open Go.Proofs.B18
/-- the numbers of the live cosets below k -/
def nmL (s : St) (k : Nat) : List Int := (List.range s.t.length).map fun i => if i < k ∧ s.rp i = i then (num s i : Int) else 0
theorem length_nmL (s : St) (k : Nat) : (nmL s k).length = s.t.length := by simp [nmL]
theorem nmL_getD (s : St) (k : Nat) {i : Nat} (h : i < s.t.length) : (nmL s k).getD i 0 = if i < k ∧ s.rp i = i then (num s i : Int) else 0 := by
  unfold nmL
  simp [List.getD_eq_getElem?_getD, h]
theorem nmL_zero (s : St) : nmL s 0 = List.replicate s.t.length 0 := getD_ext (d := 0) (by simp [length_nmL]) fun i hi => by
  rw [length_nmL] at hi
  rw [nmL_getD s 0 hi, if_neg (by omega)]
  simp [List.getD_eq_getElem?_getD, hi]
theorem nmL_live {s : St} {k : Nat} (h : k < s.t.length) (hl : s.rp k = k) : nmL s (k + 1) = (nmL s k).set k (num s k) := getD_ext (d := 0) (by simp [length_nmL]) fun i hi => by
  rw [length_nmL] at hi
  rw [nmL_getD s _ hi, getD_set, length_nmL]
  by_cases e : k = i
  · subst e; rw [if_pos ⟨by omega, hl⟩, if_pos ⟨rfl, h⟩]
  · rw [if_neg (fun h' : k = i ∧ k < s.t.length => e h'.1), nmL_getD s _ hi]
    by_cases h2 : i < k ∧ s.rp i = i
    · rw [if_pos h2, if_pos ⟨by omega, h2.2⟩]
    · rw [if_neg h2, if_neg (fun h' => h2 ⟨by omega, h'.2⟩)]
theorem nmL_dead {s : St} {k : Nat} (hl : s.rp k ≠ k) : nmL s (k + 1) = nmL s k := getD_ext (d := 0) (by simp [length_nmL]) fun i hi => by
  rw [length_nmL] at hi
  rw [nmL_getD s _ hi, nmL_getD s _ hi]
  by_cases h2 : i < k ∧ s.rp i = i
  · rw [if_pos h2, if_pos ⟨by omega, h2.2⟩]
  · rw [if_neg h2, if_neg (fun h' => h2 ⟨by
      rcases Nat.lt_or_ge i k with h3 | h3
      · exact h3
      · obtain rfl : i = k := by omega
        exact absurd h'.2 hl, h'.2⟩)]
/-- the rows of the live cosets below k -/
def tabTo (s : St) (k : Nat) : Tb := (livTo s k).map fun x => (s.t.row x).map fun v => (num s v.toNat : Int)
theorem tabTo_live {s : St} {k : Nat} (hl : s.rp k = k) : tabTo s (k + 1) = tabTo s k ++ [(s.t.row k).map fun v => (num s v.toNat : Int)] := by
  unfold tabTo
  rw [livTo_succ, if_pos hl, List.map_append]
  rfl
theorem tabTo_dead {s : St} {k : Nat} (hl : s.rp k ≠ k) : tabTo s (k + 1) = tabTo s k := by
  unfold tabTo
  rw [livTo_succ, if_neg hl]
theorem length_tabTo (s : St) (k : Nat) : (tabTo s k).length = (livTo s k).length := by simp [tabTo]
/-- a list whose first c elements are turned -/
def mixTo (f : Int → Int) (x : List Int) (c : Nat) : List Int := (x.take c).map f ++ x.drop c
theorem length_mix (f : Int → Int) (x : List Int) (c : Nat) : (mixTo f x c).length = x.length := by simp [mixTo]; omega
theorem mix_zero (f : Int → Int) (x : List Int) : mixTo f x 0 = x := by simp [mixTo]
theorem mix_all (f : Int → Int) (x : List Int) : mixTo f x x.length = x.map f := by simp [mixTo]
theorem mix_getD (f : Int → Int) (x : List Int) (c : Nat) {i : Nat} (h : i < x.length) : (mixTo f x c).getD i 0 = if i < c then f (x.getD i 0) else x.getD i 0 := by
  unfold mixTo
  rw [List.getD_eq_getElem?_getD, List.getElem?_append]
  by_cases h2 : i < c
  · rw [if_pos (by simp; omega), if_pos h2]
    simp [List.getD_eq_getElem?_getD, h, h2]
  · rw [if_neg (by simp; omega), if_neg h2]
    simp [List.getD_eq_getElem?_getD, Nat.min_eq_left (by omega : c ≤ x.length), show c + (i - c) = i by omega]
theorem mix_set (f : Int → Int) (x : List Int) {c : Nat} (h : c < x.length) : mixTo f x (c + 1) = (mixTo f x c).set c (f (x.getD c 0)) := getD_ext (d := 0) (by simp [length_mix]) fun i hi => by
  rw [length_mix] at hi
  rw [mix_getD f x _ hi, getD_set, length_mix]
  by_cases e : c = i
  · subst e; rw [if_pos (by omega), if_pos ⟨rfl, h⟩]
  · rw [if_neg (fun h' : c = i ∧ c < x.length => e h'.1), mix_getD f x _ hi]
    by_cases h2 : i < c
    · rw [if_pos h2, if_pos (by omega)]
    · rw [if_neg h2, if_neg (by omega)]
end Go.Proofs.Ct
namespace Go.Proofs.B18
open Go.RowKit Go.Shelf Go.Proofs.Ct Go.Maps
theorem OutSt2.set {e : TypeId} (he : e ≠ 3) {F : Nat → Prop} {w0 wr : World} {vout vr : Value} {rows : List (List Int)} {x : List Int} (h : OutSt2 e F w0 wr vout vr rows x) {g k : Nat} (hg : vr.ownBlock = some g) (hk : k < x.length) (z : Int) : OutSt2 e F w0 (wr.setCell ⟨g, k, none⟩ (.int .i64 z)) vout vr rows (x.set k z) := by
  obtain ⟨h1, C, hC⟩ := owns_block h.row g hg
  refine ⟨h.st.grown (grown_setCell wr g k _) fun r hr => ?_, ownI_set h.row hg hk z, h.ap⟩
  obtain rfl : g = r := Option.some.inj hr
  refine ⟨h1, h.ap g hg, fun e' => ?_⟩
  obtain ⟨-, C', hC'⟩ := h.st.out.block g e'
  rw [hC] at hC'
  injection hC' with h5
  injection h5 with _ h6 _
  exact he h6.symm
theorem eqnil24_none (w : World) (n c : Nat) : (binOp .eql 22 (.slice none n c) (.slice none 0 0)).run Try.prog w = .ok (.bool true) w := by kernel_rfl
theorem eqnil24_some (w : World) (a : Addr) (n c : Nat) : (binOp .eql 22 (.slice (some a) n c) (.slice none 0 0)).run Try.prog w = .ok (.bool false) w := by kernel_rfl
set_option maxRecDepth 100000 in
theorem clone129_any (w : World) (v : Value) (xs : List Int) (h : IntsAt w v xs) (hl : xs.length ≤ 1000000) :
    Calls Try.prog 94 #[v] w fun e w' => ∃ A c, e = .returned (.slice A xs.length c) ∧ OwnI w.heap.size w' (.slice A xs.length c) xs ∧ Below w.heap.size w w' := by
  obtain ⟨A0, c0, w', hr, hb, ho⟩ := run_copy Try.underlying22 h hl
  have HR := Lib.hid hr
  have HB := Lib.hid hb
  have HO := Lib.hid ho
  obtain ⟨A, cap, rfl, hcap, hmax, hc⟩ := h.open_
  cases A with
  | none =>
    have h0 : xs = [] := by
      rcases Nat.eq_zero_or_pos xs.length with h0 | h0
      · exact List.length_eq_zero_iff.1 h0
      · obtain ⟨b, off, hx, -⟩ := hc h0
        cases hx
    clear hr hb ho hc h HR HB HO
    subst h0
    have hq := eqnil24_none w
    go_enter Try.func94, Try.ntmps94
    go_wp2_with fail
    go_ret
    exact ⟨none, 0, rfl, World.ownsRow_nil _ _ _ _, Below.refl _ _⟩
  | some a =>
    clear hr hb ho hc h
    have hq := eqnil24_some w
    go_enter Try.func94, Try.ntmps94
    go_wp2_with ((with_reducible refine wpList_sel 7 ?_); refine wpList_val rfl (r_app (.tmp 5) (.tmp 6) 22 rfl rfl rfl HR.out) ?_)
    go_ret
    exact ⟨_, _, rfl, HO.out, HB.out⟩
/-- the rows of a state -/
theorem StP.rowAt {g base b m lim : Nat} {w : World} {s : St} (hI : Inv g s) (hn : s.t.length ≤ 1000000) (h : StP base b m lim w s) {r : Nat} (hr : r < s.t.length) : ∃ gr cr br k, w.cell? ⟨b, 2, none⟩ = some (.slice (some ⟨gr, 0, none⟩) s.t.length cr) ∧ w.cell? ⟨gr, r, none⟩ = some (.slice (some ⟨br, 0, none⟩) (2 * g) k) ∧ IntsAt w (.slice (some ⟨br, 0, none⟩) (2 * g) k) (s.t.row r) := by
  obtain ⟨-, P, vr, vp, vq, bl, cs, hB, hC⟩ := h
  obtain ⟨-, hX, h1, h2⟩ := hC.row r hr
  have hlen := hI.len r hr
  have hfit : Fits (s.t.row r) := fun x hx => by
    obtain ⟨c, hc, rfl⟩ := List.mem_iff_getElem.1 hx
    have := hI.bd r hr c (by omega)
    unfold Tb.at at this
    rw [List.getD_eq_getElem?_getD, List.getElem?_eq_getElem hc] at this
    simp at this
    omega
  obtain ⟨hl, ho⟩ := hC.out
  rcases ho with ⟨-, h0⟩ | ⟨gr, cap, cur, rfl, hb, hCr, h3, hm, hs, ht⟩
  · omega
  · refine ⟨gr, cap, bl r, cs r, hB.cells.2.2.1, ?_, hX.ints hlen (by omega) h2 hfit⟩
    rw [cell_of_row _ _ _ _ _ _ hCr]
    have h2 : (cur.toList.take (s.t.length * 1))[r]? = ((List.range s.t.length).map fun i => Value.slice (some ⟨bl i, 0, none⟩) (s.t.row i).length (cs i))[r]? := by rw [ht]
    rw [List.getElem?_take, if_pos (by omega)] at h2
    simpa [hr, hlen] using h2
theorem StP.rows0 {base b m lim : Nat} {w : World} {s : St} (h : StP base b m lim w s) (h1 : 0 < s.t.length) : ∃ gr c, w.cell? ⟨b, 2, none⟩ = some (.slice (some ⟨gr, 0, none⟩) s.t.length c) := by
  obtain ⟨-, P, vr, vp, vq, bl, cs, hB, hC⟩ := h
  rcases hC.out.2 with ⟨-, h0⟩ | ⟨gr, cap, cur, rfl, -⟩
  · omega
  · exact ⟨gr, cap, hB.cells.2.2.1⟩
end Go.Proofs.B18
namespace Go.Proofs.B18
open Go.RowKit Go.Shelf Go.Proofs.Ct Go.Maps
theorem xs_made (w : World) (s : St) : XsAt (w.alloc (.cells (Array.replicate s.t.length (.int .i64 0)) 3)) w.heap.size (nmL s 0) := by
  refine ⟨_, heap_alloc_new w _, by simp [length_nmL], fun k hk => ?_⟩
  rw [length_nmL] at hk
  rw [nmL_zero]
  simp [List.getD_eq_getElem?_getD, hk]
theorem fits_tab {g lim : Nat} {s : St} (_hG : Ct.Good g lim s) (hn : s.t.length ≤ 20000) (x : List Int) (hx : ∀ v ∈ x, v.toNat ≤ s.t.length) : Fits (x.map fun v => (num s v.toNat : Int)) := fun z hz => by
  obtain ⟨v, hv, rfl⟩ := List.mem_map.1 hz
  have := livTo_le s v.toNat
  have := hx v hv
  show -9223372036854775808 ≤ ((num s v.toNat : Nat) : Int) ∧ ((num s v.toNat : Nat) : Int) ≤ 9223372036854775807
  unfold num
  omega
theorem row_addr {base : Nat} {w : World} {A : Option Addr} {n c : Nat} {xs : List Int} (h : OwnI base w (.slice A n c) xs) (h0 : 0 < xs.length) : ∃ g, A = some ⟨g, 0, none⟩ := by
  obtain ⟨g, c', e, -⟩ := ownI_cell h h0
  injection e with e1 e2 e3
  exact ⟨g, e1⟩
set_option maxRecDepth 100000 in
set_option maxHeartbeats 4000000 in
theorem table86_any (g m base b lim : Nat) (hm : m = 2 * g) (hg : g ≤ 16) (hg1 : 1 ≤ g) (w : World) (s : St) (hS : StP base b m lim w s) (hG : Ct.Good g lim s) (hC : Comp g s s.t.length) (hlim : lim ≤ 20000) :
    Calls Try.prog 92 #[.pointer (some ⟨b, 0, none⟩)] w fun e w' => ∃ u, e = .returned u ∧ Tab w' u (tabS s) ∧ Below w.heap.size w w' := by
  have hn : s.t.length ≤ 20000 := Nat.le_trans hG.n2 hlim
  have hn1 := hG.n1
  have hn0 : (s.t.length : Int) ≤ 20000 := by omega
  have hn2 : (0 : Int) ≤ (s.t.length : Int) := Int.natCast_nonneg _
  obtain ⟨gr, cr, hrows⟩ := hS.rows0 hn1
  have HRO := Lib.hid hrows
  have HS := Lib.hid hS
  have HG := Lib.hid hG
  have HC := Lib.hid hC
  have HM := Lib.hid hm
  have HR1 : Hid ((Instr.makeSlice 22 (.int .i64 (s.t.length : Int)) (.int .i64 (s.t.length : Int))).run Try.prog w = .ok (.slice (some ⟨w.heap.size, 0, none⟩) s.t.length s.t.length) (w.alloc (.cells (Array.replicate s.t.length (.int .i64 0)) 3))) := Lib.hid (make24r w _ (by omega))
  have HX1 := Lib.hid (xs_made w s)
  have HB1 : Hid (Below w.heap.size w (w.alloc (.cells (Array.replicate s.t.length (.int .i64 0)) 3))) := Lib.hid ((Below.refl _ _).alloc (Nat.le_refl _) _)
  generalize w.alloc (.cells (Array.replicate s.t.length (.int .i64 0)) 3) = W1 at *
  have hrows1 := (HB1.out.cell (p := ⟨b, 2, none⟩) (World.block_lt_of_cell? w _ hrows)).trans hrows
  clear hS hG hC hm
  go_enter Try.func92, Try.ntmps92
  go_wp2_with ((with_reducible refine wpList_sel 16 ?_); refine wpList_val rfl (r_make 22 (.tmp 15) (.tmp 15) rfl rfl rfl HR1.out) ?_)
  go_loopg [4, 22] s.t.length (fun n v i wr => ∃ k : Nat, i = .int .i64 (k : Int) ∧ n = s.t.length - k ∧ k ≤ s.t.length ∧ v = .int .i64 ((num s k : Nat) : Int) ∧ Hid (XsAt wr w.heap.size (nmL s k)) ∧ Hid (Below w.heap.size w wr))
  case atStart => exact ⟨0, rfl, by omega, Nat.zero_le _, rfl, HX1, HB1⟩
  case round =>
    clear hrows hrows1 HX1 HB1
    obtain ⟨k, rfl, hgk, hk, rfl, HX, HB⟩ := hrel
    have HGK := Lib.hid hgk
    clear hgk
    have hk0 : (0 : Int) ≤ (k : Int) := Int.natCast_nonneg _
    have hnk : num s k ≤ k := livTo_le s k
    have hnk0 : (0 : Int) ≤ ((num s k : Nat) : Int) := Int.natCast_nonneg _
    have hnk1 : ((num s k : Nat) : Int) ≤ 20000 := by omega
    have hrowsk := (HB.out.cell (p := ⟨b, 2, none⟩) (World.block_lt_of_cell? w _ HRO.out)).trans HRO.out
    by_cases hlt : k < s.t.length
    · have hltI : (k : Int) < (s.t.length : Int) := by omega
      have HAL := Lib.hid (alive127_any g base b m lim k _ s (HS.out.below HB.out) hlt)
      by_cases hal : s.rp k = k
      · have HAT : Hid (decide (s.rp k = k) = true) := Lib.hid (by simp [hal])
        have HNL : Hid (nmL s (k + 1) = (nmL s k).set k (num s k)) := Lib.hid (nmL_live hlt hal)
        have HNK : Hid (num s (k + 1) = num s k + 1) := Lib.hid (by
          unfold num
          rw [livTo_succ, if_pos hal]
          simp)
        have hcx := HX.out.cell (k := k) (by rw [length_nmL]; exact hlt)
        have hfx := HX.out.frozen k
        have HX2 := Lib.hid (HX.out.set (k := k) (by rw [length_nmL]; exact hlt) (num s k))
        clear hal
        go_wp2_with (first
          | (go_at_call 103; (with_reducible refine HAL.out.mono ?_); rintro E w2 ⟨rfl, rfl⟩; rw [HAT.out]))
        go_roundg (s.t.length - (k + 1))
        case measure => have := HGK.out; omega
        case rel => exact ⟨k + 1, by go_num, rfl, by omega, by rw [HNK.out]; go_num, Lib.hid (by rw [HNL.out]; exact HX2.out), Lib.hid (HB.out.grown (grown_setCell _ _ _ _) HB.out.size (fun k hk => by cases hk; exact Nat.le_refl _))⟩
      · have HAT : Hid (decide (s.rp k = k) = false) := Lib.hid (by simp [hal])
        have HNL : Hid (nmL s (k + 1) = nmL s k) := Lib.hid (nmL_dead hal)
        have HNK : Hid (num s (k + 1) = num s k) := Lib.hid (by
          unfold num
          rw [livTo_succ, if_neg hal])
        clear hal
        go_wp2_with (first
          | (go_at_call 103; (with_reducible refine HAL.out.mono ?_); rintro E w2 ⟨rfl, rfl⟩; rw [HAT.out]))
        go_roundg (s.t.length - (k + 1))
        case measure => have := HGK.out; omega
        case rel => exact ⟨k + 1, by go_num, rfl, by omega, by rw [HNK.out], Lib.hid (by rw [HNL.out]; exact HX.out), HB⟩
    · obtain rfl : k = s.t.length := by omega
      rename World => W2
      clear hlt
      have HST : Hid (OutSt 22 (fun _ => False) W2 W2 (.slice none 0 0) (tabTo s 0)) := Lib.hid (OutSt.nil 22 (Below.refl _ _))
      have HXN := HX
      have HBN := HB
      go_wp2_with fail
      go_loopg [6, 40] s.t.length (fun n v i wr => ∃ k : Nat, i = .int .i64 (k : Int) ∧ n = s.t.length - k ∧ k ≤ s.t.length ∧ ∃ (F : Nat → Prop) (A : Option Addr) (c : Nat), v = .slice A (tabTo s k).length c ∧ Hid (OutSt 22 F W2 wr (.slice A (tabTo s k).length c) (tabTo s k)))
      case atStart => exact ⟨0, rfl, by omega, Nat.zero_le _, _, none, 0, rfl, HST⟩
      case round =>
        clear HST HX HB HGK hnk hnk0 hnk1 hk0 hk hrowsk
        obtain ⟨k, rfl, hgk, hk, F, A, cA, rfl, HO⟩ := hrel
        have HGK := Lib.hid hgk
        clear hgk
        have hk0 : (0 : Int) ≤ (k : Int) := Int.natCast_nonneg _
        have HBK := Lib.hid (HBN.out.trans (HO.out.below.mono HBN.out.size))
        by_cases hlt : k < s.t.length
        · have hltI : (k : Int) < (s.t.length : Int) := by omega
          have hSP := HS.out.below HBK.out
          have HAL := Lib.hid (alive127_any g base b m lim k _ s hSP hlt)
          obtain ⟨gr', cr', br, kc, a1, a2, a3⟩ := hSP.rowAt HG.out.rest.inv (by omega) hlt
          have a0 := (HBK.out.cell (p := ⟨b, 2, none⟩) (World.block_lt_of_cell? w _ HRO.out)).trans HRO.out
          rw [a0] at a1
          injection a1 with a1
          injection a1 with a1 e2 e3
          injection a1 with a1
          injection a1 with a1
          subst a1
          clear e2 e3 a0 hSP
          have HCL := Lib.hid (clone129_any wr _ _ a3 (by rw [HG.out.rest.inv.len k hlt]; omega))
          rw [HG.out.rest.inv.len k hlt] at HCL
          by_cases hal : s.rp k = k
          · have HAT : Hid (decide (s.rp k = k) = true) := Lib.hid (by simp [hal])
            have HTL : Hid (tabTo s (k + 1) = tabTo s k ++ [(s.t.row k).map fun v => (num s v.toNat : Int)]) := Lib.hid (tabTo_live hal)
            have HRW : Hid (∀ c, c < 2 * g → ∃ y : Nat, s.t.at k c = (y : Int) ∧ y < s.t.length ∧ s.rp y = y) := Lib.hid fun c hc => by
              have h0 := HC.out k hlt hlt c hc
              rw [hal] at h0
              obtain ⟨y, hy⟩ := Int.eq_ofNat_of_zero_le h0
              obtain ⟨-, h2, h3⟩ := HG.out.rest.live hlt hc (show Ct.Edge s.t k c y from hy)
              exact ⟨y, hy, h3, h2⟩
            have HRL := Lib.hid (HG.out.rest.inv.len k hlt)
            have HRB : Hid (∀ v ∈ s.t.row k, v.toNat ≤ s.t.length) := Lib.hid fun v hv => by
              obtain ⟨c, hc, rfl⟩ := List.mem_iff_getElem.1 hv
              obtain ⟨y, hy, hy1, -⟩ := HRW.out c (by rw [← HG.out.rest.inv.len k hlt]; exact hc)
              unfold Tb.at at hy
              rw [List.getD_eq_getElem?_getD, List.getElem?_eq_getElem hc] at hy
              simp at hy
              omega
            have HTK := Lib.hid (length_tabTo s k)
            have HLK := Lib.hid (livTo_le s k)
            clear hal a3
            go_wp2_with (first
              | (go_at_call 103; (with_reducible refine HAL.out.mono ?_); rintro E w2 ⟨rfl, rfl⟩; rw [HAT.out])
              | (go_at_call 94; (with_reducible refine HCL.out.mono ?_); rintro E w2 ⟨A3, c3, rfl, ho3, hb3⟩
                 obtain ⟨h3, rfl⟩ : ∃ h3, A3 = some ⟨h3, 0, none⟩ := row_addr ho3 (by rw [HRL.out]; omega)
                 have HO3 : Hid (OutSt2 22 F W2 w2 (.slice A (tabTo s k).length cA) (.slice (some ⟨h3, 0, none⟩) (2 * g) c3) (tabTo s k) (mixTo (fun v => (num s v.toNat : Int)) (s.t.row k) 0)) := Lib.hid (by rw [mix_zero]; exact HO.out.with_row hb3 ho3)
                 clear ho3 hb3))
            go_loopg [53] (2 * g) (fun n i wx => ∃ c : Nat, i = .int .i64 (c : Int) ∧ n = 2 * g - c ∧ c ≤ 2 * g ∧ Hid (OutSt2 22 F W2 wx (.slice A (tabTo s k).length cA) (.slice (some ⟨h3, 0, none⟩) (2 * g) c3) (tabTo s k) (mixTo (fun v => (num s v.toNat : Int)) (s.t.row k) c)))
            case atStart => exact ⟨0, rfl, by omega, Nat.zero_le _, HO3⟩
            case round =>
              clear HO3
              obtain ⟨c, rfl, hgc, hc, HO4⟩ := hrel
              have HGC := Lib.hid hgc
              clear hgc
              have hc0 : (0 : Int) ≤ (c : Int) := Int.natCast_nonneg _
              have hxl : (mixTo (fun v => (num s v.toNat : Int)) (s.t.row k) c).length = 2 * g := by rw [length_mix, HRL.out]
              by_cases hcg : c < 2 * g
              · have hcI : (c : Int) < 2 * (g : Int) := by omega
                obtain ⟨y, hy, hy1, hy2⟩ := HRW.out c hcg
                have hrow := HO4.out.row
                obtain ⟨g', c', e, -, -, hcc, hff⟩ := ownI_cell hrow (by rw [hxl]; omega)
                injection e with e1 e2 e3
                injection e1 with e1
                injection e1 with e1
                subst e1
                have hck := hcc c (by rw [hxl]; exact hcg)
                rw [mix_getD _ _ _ (by rw [HRL.out]; exact hcg), if_neg (Nat.lt_irrefl _)] at hck
                have hyy : (s.t.row k).getD c 0 = (y : Int) := hy
                rw [hyy] at hck
                have hfk := hff c
                have hx2 := (HXN.out.below HO4.out.st.below).cell (k := y) (by rw [length_nmL]; exact hy1)
                rw [nmL_getD s _ hy1, if_pos ⟨hy1, hy2⟩] at hx2
                have HO5 := Lib.hid (HO4.out.set (by decide) (g := h3) (k := c) rfl (by rw [hxl]; exact hcg) (num s y : Int))
                have HMX : Hid (mixTo (fun v => (num s v.toNat : Int)) (s.t.row k) (c + 1) = (mixTo (fun v => (num s v.toNat : Int)) (s.t.row k) c).set c (num s y : Int)) := Lib.hid (by
                  rw [mix_set _ _ (by rw [HRL.out]; exact hcg), hyy, Int.toNat_natCast])
                have hy0 : (0 : Int) ≤ (y : Int) := Int.natCast_nonneg _
                have hyI : (y : Int) < (s.t.length : Int) := by omega
                clear hcc hff hrow e2 e3 hyy hy hxl
                go_wp2_with fail
                go_roundg (2 * g - (c + 1))
                case measure => have := HGC.out; omega
                case rel => exact ⟨c + 1, by go_num, rfl, by omega, Lib.hid (by rw [HMX.out]; exact HO5.out)⟩
              · obtain rfl : c = 2 * g := by omega
                have hS := HO4.out
                rw [← HRL.out, mix_all] at hS
                rw [HRL.out] at hS
                obtain ⟨A8, c8, w8, hr8, hS8⟩ := hS.done (by decide) Try.underlying74 info24p (fits_tab HG.out (by omega) _ HRB.out) (by have := HTK.out; have := HLK.out; omega)
                rw [← HTL.out] at hS8
                have hlen : (tabTo s (k + 1)).length = (tabTo s k).length + 1 := by rw [HTL.out]; simp
                rw [← hlen] at hr8 hS8
                have HR8 := Lib.hid hr8
                have HS8 := Lib.hid hS8
                clear hr8 hS8 hS hlen hxl
                go_wp2_with ((with_reducible refine wpList_sel 70 ?_); refine wpList_val rfl (r_app (.tmp 67) (.tmp 69) 74 rfl rfl rfl HR8.out) ?_)
                go_roundg (s.t.length - (k + 1))
                case measure => have := HGK.out; omega
                case rel => exact ⟨k + 1, by go_num, rfl, by omega, _, A8, c8, rfl, HS8⟩
          · have HAT : Hid (decide (s.rp k = k) = false) := Lib.hid (by simp [hal])
            have HTL : Hid (tabTo s (k + 1) = tabTo s k) := Lib.hid (tabTo_dead hal)
            clear hal a3 HCL
            go_wp2_with (first
              | (go_at_call 103; (with_reducible refine HAL.out.mono ?_); rintro E w2 ⟨rfl, rfl⟩; rw [HAT.out]))
            go_roundg (s.t.length - (k + 1))
            case measure => have := HGK.out; omega
            case rel =>
              have h1 := HO.out
              have h2 := HTL.out
              rw [← h2] at h1 ⊢
              exact ⟨k + 1, by go_num, rfl, by omega, F, A, cA, rfl, Lib.hid h1⟩
        · obtain rfl : k = s.t.length := by omega
          clear hlt
          have HT := Lib.hid HO.out.out.tab
          go_wp2_with fail
          go_ret
          exact ⟨_, rfl, HT.out, HBK.out⟩
end Go.Proofs.B18
namespace Go.Proofs.B18
open Go.RowKit Go.Shelf Go.Proofs.Ct Go.Maps
theorem ta_nil (w : World) : (Instr.typeAssert .nilIface 20 127 true).run Try.prog w = .ok (.tuple #[.agg #[], .bool false]) w := by kernel_rfl
theorem ta_full (w : World) : (Instr.typeAssert (.iface 127 (.agg #[])) 20 127 true).run Try.prog w = .ok (.tuple #[.agg #[], .bool true]) w := by kernel_rfl
theorem alloc112 (w : World) : (Instr.alloc 127 true (.tuple #[])).run Try.prog w = .ok (.pointer (some ⟨w.heap.size, 0, none⟩)) (w.alloc (.cells #[] 127)) := by kernel_rfl
theorem neq_nil (w : World) : (binOp .neq 20 .nilIface .nilIface).run Try.prog w = .ok (.bool false) w := by kernel_rfl
/-- the cells of the three results: the table at q, the numbers at q + 1, the error at q + 1 + 1 -/
structure ResC (q : Nat) (w : World) (v : Value) (a b c e : Int) : Prop where
  c0 : w.cell? ⟨q, 0, none⟩ = some v
  c1 : w.cell? ⟨q + 1, 0, none⟩ = some (.int .i64 a)
  c2 : w.cell? ⟨q + 1, 1, none⟩ = some (.int .i64 b)
  c3 : w.cell? ⟨q + 1, 2, none⟩ = some (.int .i64 c)
  c4 : w.cell? ⟨q + 1 + 1, 0, none⟩ = some (.int .i64 e)
  f0 : w.frozen? ⟨q, 0, none⟩ = false
  f1 : w.frozen? ⟨q + 1, 0, none⟩ = false
  f2 : w.frozen? ⟨q + 1, 1, none⟩ = false
  f3 : w.frozen? ⟨q + 1, 2, none⟩ = false
  f4 : w.frozen? ⟨q + 1 + 1, 0, none⟩ = false
theorem ResC.lt {q : Nat} {w : World} {v : Value} {a b c e : Int} (h : ResC q w v a b c e) : q + 1 + 1 < w.heap.size := World.block_lt_of_cell? w _ h.c4
theorem ResC.below {q : Nat} {w w' : World} {v : Value} {a b c e : Int} (h : ResC q w v a b c e) {B : Nat} (hq : q + 1 + 1 < B) (hb : Below B w w') : ResC q w' v a b c e :=
  ⟨(hb.cell (p := ⟨q, 0, none⟩) (by show q < B; omega)).trans h.c0, (hb.cell (p := ⟨q + 1, 0, none⟩) (by show q + 1 < B; omega)).trans h.c1, (hb.cell (p := ⟨q + 1, 1, none⟩) (by show q + 1 < B; omega)).trans h.c2, (hb.cell (p := ⟨q + 1, 2, none⟩) (by show q + 1 < B; omega)).trans h.c3, (hb.cell (p := ⟨q + 1 + 1, 0, none⟩) hq).trans h.c4,
   (hb.frozen (p := ⟨q, 0, none⟩) (by show q < B; omega)).trans h.f0, (hb.frozen (p := ⟨q + 1, 0, none⟩) (by show q + 1 < B; omega)).trans h.f1, (hb.frozen (p := ⟨q + 1, 1, none⟩) (by show q + 1 < B; omega)).trans h.f2, (hb.frozen (p := ⟨q + 1, 2, none⟩) (by show q + 1 < B; omega)).trans h.f3, (hb.frozen (p := ⟨q + 1 + 1, 0, none⟩) hq).trans h.f4⟩
/-- all five cells written -/
def setR (q : Nat) (w : World) (v : Value) (a b c e : Int) : World := ((((w.setCell ⟨q, 0, none⟩ v).setCell ⟨q + 1, 0, none⟩ (.int .i64 a)).setCell ⟨q + 1, 1, none⟩ (.int .i64 b)).setCell ⟨q + 1, 2, none⟩ (.int .i64 c)).setCell ⟨q + 1 + 1, 0, none⟩ (.int .i64 e)
theorem cell_set {w : World} {a p : Addr} {u : Value} (h : w.cell? p = some u) (v : Value) : (w.setCell a v).cell? p = some (if a = p then v else u) := by
  split
  · rename_i e; subst e; exact World.cell?_setCell_same _ _ _ h
  · rename_i e; rw [World.cell?_setCell_other _ _ _ _ e]; exact h
theorem ResC.set {q : Nat} {w : World} {v : Value} {a b c e : Int} (h : ResC q w v a b c e) (v' : Value) (a' b' c' e' : Int) : ResC q (setR q w v' a' b' c' e') v' a' b' c' e' := by
  obtain ⟨c0, c1, c2, c3, c4, f0, f1, f2, f3, f4⟩ := h
  unfold setR
  refine ⟨(cell_set (cell_set (cell_set (cell_set (cell_set c0 _) _) _) _) _).trans ?_, (cell_set (cell_set (cell_set (cell_set (cell_set c1 _) _) _) _) _).trans ?_, (cell_set (cell_set (cell_set (cell_set (cell_set c2 _) _) _) _) _).trans ?_, (cell_set (cell_set (cell_set (cell_set (cell_set c3 _) _) _) _) _).trans ?_, (cell_set (cell_set (cell_set (cell_set (cell_set c4 _) _) _) _) _).trans ?_, ?_, ?_, ?_, ?_, ?_⟩ <;> simp [f0, f1, f2, f3, f4]
theorem setR_below {B q : Nat} {w w' : World} (h : Below B w w') (hq : B ≤ q) (v : Value) (a b c e : Int) : Below B w (setR q w' v a b c e) :=
  ((((h.setCell (p := ⟨q, 0, none⟩) hq v).setCell (p := ⟨q + 1, 0, none⟩) (by show B ≤ q + 1; omega) _).setCell (p := ⟨q + 1, 1, none⟩) (by show B ≤ q + 1; omega) _).setCell (p := ⟨q + 1, 2, none⟩) (by show B ≤ q + 1; omega) _).setCell (p := ⟨q + 1 + 1, 0, none⟩) (by show B ≤ q + 1 + 1; omega) _
set_option maxRecDepth 100000 in
theorem catch84_idle (p q r : Addr) (w : World) :
    CallsD Try.prog 89 #[.pointer (some p), .pointer (some q), .pointer (some r)] .returning w fun e u' w' => e = .returned (.tuple #[]) ∧ u' = .returning ∧ Below w.heap.size w w' := by
  refine callsD_of_wpS Try.func89 rfl fun c₀ cs hu => ?_
  apply wpS_seq
  apply wpS_region
  simp [wpOpsS, go_sem, recoverD, hu, Try.ntmps89, Exit.thenS]
  refine wpS_of_wp ?_
  show Code.wp Try.prog _ _ ⟨#[.pointer (some p), .pointer (some q), .pointer (some r), .nilIface, undef, undef, .nilIface, undef, undef, undef, undef, undef, undef, undef, undef, undef, undef], []⟩ w
  have h1 := ta_nil
  have h2 := alloc112
  have h3 := neq_nil
  go_wp2_with fail
  have hB : Below w.heap.size w (w.alloc (.cells #[] 127)) := (Below.refl _ _).alloc (Nat.le_refl _) _
  cases c₀
  simp_all [bodyPostS, results, Try.results89]
set_option maxRecDepth 100000 in
theorem catch84_full (q base : Nat) (w : World) (v : Value) (a b c e : Int) (hq : base ≤ q) (h : ResC q w v a b c e) :
    CallsD Try.prog 89 #[.pointer (some ⟨q, 0, none⟩), .pointer (some ⟨q + 1, 0, none⟩), .pointer (some ⟨q + 1 + 1, 0, none⟩)] (.panicking fullP) w fun e u' w' => e = .returned (.tuple #[]) ∧ u' = .panicking [{ v := .iface 127 (.agg #[]), recovered := true }] ∧ ResC q w' (.slice none 0 0) 0 0 0 12 ∧ Below base w w' := by
  have hlt := h.lt
  have hB : Below w.heap.size w (w.alloc (.cells #[] 127)) := (Below.refl _ _).alloc (Nat.le_refl _) _
  obtain ⟨c0, c1, c2, c3, c4, f0, f1, f2, f3, f4⟩ := h.below hlt hB
  refine callsD_of_wpS Try.func89 rfl fun c₀ cs hu => ?_
  apply wpS_seq
  apply wpS_region
  simp [wpOpsS, go_sem, recoverD, hu, Try.ntmps89, Exit.thenS, fullP]
  refine wpS_of_wp ?_
  show Code.wp Try.prog _ _ ⟨#[.pointer (some ⟨q, 0, none⟩), .pointer (some ⟨q + 1, 0, none⟩), .pointer (some ⟨q + 1 + 1, 0, none⟩), .iface 127 (.agg #[]), undef, undef, .iface 127 (.agg #[]), undef, undef, undef, undef, undef, undef, undef, undef, undef, undef], []⟩ w
  have h1 := ta_full
  have h2 := alloc112
  have h3 := neq_nil
  have HR := Lib.hid ((h.below hlt hB).set (.slice none 0 0) 0 0 0 12)
  have HB := Lib.hid (setR_below (hB.mono (by omega)) hq (.slice none 0 0) 0 0 0 12)
  clear h hB
  go_wp2_with fail
  have hres := HR.out
  have hbel := HB.out
  unfold setR at hres hbel
  cases c₀
  simp_all [bodyPostS, results, Try.results89]
end Go.Proofs.B18
