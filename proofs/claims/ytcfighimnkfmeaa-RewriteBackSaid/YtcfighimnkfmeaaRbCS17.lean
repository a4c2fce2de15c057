/- The reference's Fill; (*coset.state).run; The reference's run; (*coset.state).table; (*coset.state).table: the walk; The reference's Result; coset.Enumerate: its results' cells, and the closure that it defers; coset.Enumerate: what it answers, and how its results are read. -/
import Derived.Test.YtcfighimnkfmeaaRbCS16
import Derived.Deep.CutBlock
import Derived.Deep.LoopGhost
import Derived.Defers
import Derived.Recover
import Derived.Test.YtcfighimnkfmeaaRbCS12
namespace Go.Proofs.Ct
theorem fwd_pos0 {t : Tb} {r : Nat} {w : W} : 0 ≤ leadTo t r w (fwd t r w) := by
  have h := (fwd_spec t r w).2.2
  cases e : fwd t r w with
  | zero => exact Int.natCast_nonneg r
  | succ k => exact h k (by omega)
theorem outM_none {m r : Nat} {s s' : St} {w : W} (h : scanS m s r w = (s', none)) : ∃ a b d, outM s r w = (a, b, false, d) := by
  unfold scanS at h
  unfold outM
  split
  · exact ⟨_, _, _, rfl⟩
  · rename_i h1
    rw [if_neg h1] at h
    split
    · exact ⟨_, _, _, rfl⟩
    · rename_i h2
      rw [if_neg h2] at h
      split
      · exact ⟨_, _, _, rfl⟩
      · rename_i h3
        rw [if_neg h3] at h
        simp at h
theorem outM_some {m r f c : Nat} {s s' : St} {w : W} (h : scanS m s r w = (s', some (f, c))) : outM s r w = ((f : Int), (c : Int), true, false) := by
  unfold scanS at h
  unfold outM
  split at h
  · simp at h
  · rename_i h1
    rw [if_neg h1]
    split at h
    · simp at h
    · rename_i h2
      rw [if_neg h2]
      split at h
      · simp at h
      · rename_i h3
        rw [if_neg h3]
        have := fwd_pos0 (t := s.t) (r := r) (w := w)
        simp only [Prod.mk.injEq, Option.some.injEq] at h
        obtain ⟨-, h4, h5⟩ := h
        rw [← h4, ← h5]
        simp only [Prod.mk.injEq, and_true]
        omega
end Go.Proofs.Ct
namespace Go.Proofs
open Go.RowKit Go.Shelf Go.Proofs.Ct Go.Maps
set_option maxRecDepth 100000 in
set_option maxHeartbeats 4000000 in
theorem fill131_any (g m base b lim r : Nat) (hm : m = 2 * g) (hg : g ≤ 16) (hg1 : 1 ≤ g) (w : World) (s : St) (u : Value) (ws : W) (hR : Ct.Rest g s) (hS : StR base b lim w s) (hbw : base ≤ w.heap.size) (hlim : lim ≤ 999999) (hn : s.t.length ≤ lim) (hu : ∀ W, Below base w W → IntsAt W u ws) (hl : LOk g ws) (hr : r < s.t.length) (hlr : s.rp r = r) :
    Calls Try.prog 131 #[.pointer (some ⟨b, 0, none⟩), .int .i64 (r : Int), u] w fun e w' => ((∃ s', fillS m lim s r ws = some s' ∧ e = .returned (.bool true) ∧ StR base b lim w' s') ∨ (fillS m lim s r ws = none ∧ e = .returned (.bool false))) ∧ Kf base w w' := by
  have HREL : Hid (StR base b lim w s ∧ Ct.Rest g s ∧ s.t.length ≤ lim ∧ r < s.t.length ∧ s.rp r = r) := Lib.hid ⟨hS, hR, hn, hr, hlr⟩
  generalize hfe : fillS m lim s r ws = F at *
  have HBW := Lib.hid hbw
  have HUU := Lib.hid hu
  have HL := Lib.hid hl
  have HM := Lib.hid hm
  have HF := Lib.hid hfe
  clear hR hS hu hl hlr hn hr hbw hfe
  go_enter Try.func131, Try.ntmps131
  go_wp2_with fail
  go_loopg [7, 8, 9, 10] (lim + 1 - s.t.length) (fun n f c o d wr => ∃ s1 : St, n = lim + 1 - s1.t.length ∧ Hid (StR base b lim wr s1 ∧ Ct.Rest g s1 ∧ s1.t.length ≤ lim ∧ r < s1.t.length ∧ s1.rp r = r) ∧ Hid (fillS m lim s1 r ws = F) ∧ Hid (Kf base w wr))
  case atStart => exact ⟨s, rfl, HREL, HF, Lib.hid (Kf.refl _ _)⟩
  case round =>
    obtain ⟨s1, hgk, HI, HF1, HB⟩ := hrel
    have HGK := Lib.hid hgk
    clear HREL HF hgk
    obtain ⟨h1, h2, h3, h4, h5⟩ := HI.out
    obtain ⟨k1, k2⟩ := scan_rest h2 h4 h5 HL.out
    rw [← HM.out] at k1 k2
    have hstep := fillS_step (m := m) (r := r) (w := ws) h3
    rw [HF1.out] at hstep
    have HSC := Lib.hid (scan150_any g m base b lim r HM.out hg wr s1 u ws h2 h1 (Nat.le_trans HBW.out HB.out.size) (by omega) (HUU.out wr HB.out.1) HL.out h4 h5)
    cases hsc : scanS m s1 r ws with
    | mk s2 o =>
      rw [hsc] at HSC hstep
      cases o with
      | none =>
        have HE : Hid (F = some s2) := Lib.hid hstep
        obtain ⟨a, c, d, ho⟩ := outM_none hsc
        rw [ho] at HSC
        have HSC' : Hid (Calls Try.prog 150 #[.pointer (some ⟨b, 0, none⟩), .int .i64 (r : Int), u] wr fun e w' => e = .returned (.tuple #[.int .i64 a, .int .i64 c, .bool false, .bool d]) ∧ StR base b lim w' s2 ∧ Kf base wr w') := Lib.hid HSC.out
        clear k1 k2 hstep HSC h1 h2 h3 h4 h5 hsc ho
        go_wp2_with (first
          | (go_at_call 150; (with_reducible refine HSC'.out.mono ?_); rintro E w1 ⟨rfl, hs1, hb1⟩
             have HS1 := Lib.hid hs1
             have HB1 := Lib.hid hb1
             clear hs1 hb1))
        go_ret
        exact ⟨.inl ⟨s2, HE.out, rfl, HS1.out⟩, HB.out.trans HB1.out⟩
      | some fc =>
        obtain ⟨f, c⟩ := fc
        obtain ⟨rfl, j1, j2, j3, j4⟩ := k2 _ _ _ hsc
        rw [outM_some hsc] at HSC
        have HSC' : Hid (Calls Try.prog 150 #[.pointer (some ⟨b, 0, none⟩), .int .i64 (r : Int), u] wr fun e w' => e = .returned (.tuple #[.int .i64 (f : Int), .int .i64 (c : Int), .bool true, .bool false]) ∧ StR base b lim w' s2 ∧ Kf base wr w') := Lib.hid HSC.out
        have hcm : c < m := by rw [HM.out]; rw [← HM.out]; exact j2
        by_cases hfull : s2.t.length = lim
        · have HE : Hid (F = none) := Lib.hid (by rw [hstep]; exact if_pos hfull)
          have HD : Hid (∀ W, StR base b lim W s2 → base ≤ W.heap.size → Calls Try.prog 132 #[.pointer (some ⟨b, 0, none⟩), .int .i64 (f : Int), .int .i64 (c : Int)] W fun e w' => e = .returned (.bool false) ∧ Kf base W w') := Lib.hid fun W h hw => by
            subst hfull
            exact define132_full base b f c W s2 h hw (by omega)
          clear k1 k2 hstep HSC h1 h2 h3 h4 h5 hsc j1 j2 j3 j4 hfull hcm
          go_wp2_with (first
            | (go_at_call 150; (with_reducible refine HSC'.out.mono ?_); rintro E w1 ⟨rfl, hs1, hb1⟩
               have HS1 := Lib.hid hs1
               have HB1 := Lib.hid (HB.out.trans hb1)
               clear hs1 hb1)
            | (go_at_call 132; (with_reducible refine (HD.out _ HS1.out (Nat.le_trans HBW.out HB1.out.size)).mono ?_); rintro E w2 ⟨rfl, hb2⟩
               have HB2 := Lib.hid (HB1.out.trans hb2)
               clear hb2))
          go_ret
          exact ⟨.inr ⟨HE.out, rfl⟩, HB2.out⟩
        · have HE : Hid (fillS m lim (defS m s2 f c) r ws = F) := Lib.hid (by rw [hstep]; exact (if_neg hfull).symm)
          have HD : Hid (∀ W, StR base b lim W s2 → base ≤ W.heap.size → Calls Try.prog 132 #[.pointer (some ⟨b, 0, none⟩), .int .i64 (f : Int), .int .i64 (c : Int)] W fun e w' => e = .returned (.bool true) ∧ StR base b lim w' (defS m s2 f c) ∧ Kf base W w') := Lib.hid fun W h hw =>
            define132_any g m base b lim f c HM.out hg hg1 W s2 h2 h hw (by omega) j1 hcm (by omega)
          have HN : Hid (Ct.Rest g (defS m s2 f c) ∧ (defS m s2 f c).t.length ≤ lim ∧ r < (defS m s2 f c).t.length ∧ (defS m s2 f c).rp r = r) := Lib.hid ⟨by
            have := (h2.defn (r := f) (c := c) j1 (by rw [← HM.out]; exact hcm) j3 j4).1
            rw [← HM.out] at this
            exact this, by rw [length_def]; omega, by rw [length_def]; omega, by rw [rp_def_old h2.inv m f c h4]; exact h5⟩
          have HLEN : Hid ((defS m s2 f c).t.length = s2.t.length + 1) := Lib.hid (length_def m f c)
          have HLT : Hid (s2.t.length ≤ lim) := Lib.hid h3
          clear k1 k2 hstep HSC h1 h2 h3 h4 h5 hsc j1 j2 j3 j4 hfull hcm HI
          generalize defS m s2 f c = s9 at *
          go_wp2_with (first
            | (go_at_call 150; (with_reducible refine HSC'.out.mono ?_); rintro E w1 ⟨rfl, hs1, hb1⟩
               have HS1 := Lib.hid hs1
               have HB1 := Lib.hid (HB.out.trans hb1)
               clear hs1 hb1)
            | (go_at_call 132; (with_reducible refine (HD.out _ HS1.out (Nat.le_trans HBW.out HB1.out.size)).mono ?_); rintro E w2 ⟨rfl, hs2, hb2⟩
               have HS2 := Lib.hid hs2
               have HB2 := Lib.hid (HB1.out.trans hb2)
               clear hs2 hb2))
          go_roundg (lim + 1 - s9.t.length)
          case measure => have := HGK.out; have := HLEN.out; have := HLT.out; omega
          case rel => exact ⟨s9, rfl, Lib.hid ⟨HS2.out, HN.out.1, HN.out.2.1, HN.out.2.2.1, HN.out.2.2.2⟩, HE, HB2⟩
end Go.Proofs
namespace Go.Proofs
open Go.RowKit Go.Shelf Go.Proofs.Ct Go.Maps
namespace Ct
theorem opt_stop {α : Type} {f : Nat → α → Option α} {s s' : α} {k : Nat} (h : optTo f k s = some s') (hf : ∀ i, k ≤ i → f i s' = some s') : ∀ n, k ≤ n → optTo f n s = some s'
  | 0, hn => by rw [show k = 0 by omega] at h; exact h
  | n + 1, hn => by
    by_cases e : k = n + 1
    · rw [← e]; exact h
    · rw [optTo_succ, opt_stop h hf n (by omega)]; exact hf n (by omega)
theorem relS_dead {m lim : Nat} {rels : List W} {r i : Nat} {s : St} (h : s.rp r ≠ r) : relS m lim rels r i s = some s := if_neg h
theorem colS_dead {m lim r c : Nat} {s : St} (h : s.rp r ≠ r) : colS m lim r c s = some s := if_neg fun h' => h h'.1
theorem rowsS_stop {m lim : Nat} {rels : List W} {r : Nat} {s : St} (h : s.t.length ≤ r) : rowsS m lim rels r s = some s := if_neg (by omega)
end Ct
theorem StP.rows {base b m lim : Nat} {w : World} {s : St} (h : StP base b m lim w s) : ∃ A c, w.cell? ⟨b, 2, none⟩ = some (.slice A s.t.length c) := by
  obtain ⟨-, P, vr, vp, vq, bl, cs, hB, hC⟩ := h
  obtain ⟨A, c, rfl⟩ := owns_form hC.out
  exact ⟨A, c, hB.cells.2.2.1⟩
/-- the lists of words that are handed in, whatever the call has written since -/
def Words (base : Nat) (w : World) (v : Value) (l : List W) : Prop := ∃ w0, w0.heap.size = base ∧ Tab w0 v l ∧ Below base w0 w
theorem Words.tab {base : Nat} {w : World} {v : Value} {l : List W} (h : Words base w v l) {W : World} (hb : Below base w W) : Tab W v l := by
  obtain ⟨w0, rfl, ht, h0⟩ := h
  exact kept_tab.below ht (h0.trans hb)
theorem Words.at_ {base : Nat} {w : World} {v : Value} {l : List W} (h : Words base w v l) {k : Nat} (hk : k < l.length) : ∃ b o c u, v = .slice (some ⟨b, o, none⟩) l.length c ∧ ∀ W, Below base w W → W.cell? ⟨b, o + k, none⟩ = some u ∧ IntsAt W u (l.getD k []) := by
  obtain ⟨w0, rfl, ht, h0⟩ := h
  obtain ⟨A, c, rfl, -, -, h3⟩ := ht.open_
  obtain ⟨b, o, rfl, h4⟩ := h3 (by omega)
  obtain ⟨u, hu, hI⟩ := h4 k hk
  exact ⟨b, o, c, u, rfl, fun W hW => ⟨((h0.trans hW).cell (p := ⟨b, o + k, none⟩) (World.block_lt_of_cell? w0 _ hu)).trans hu, kept_ints.below hI (h0.trans hW)⟩⟩
end Go.Proofs
namespace Go.Proofs
open Go.RowKit Go.Shelf Go.Proofs.Ct Go.Maps
theorem StR.live {base b lim : Nat} {w : World} {s : St} (hS : StR base b lim w s) {r : Nat} (hr : r < s.t.length) : ∃ (y gp cp : Nat), w.cell? ⟨b, 1, none⟩ = some (.slice (some ⟨gp, 0, none⟩) s.t.length cp) ∧ w.cell? ⟨gp, r, none⟩ = some (.int .i64 (y : Int)) ∧ (y = r ↔ s.rp r = r) := by
  obtain ⟨P, gp, cp, c1, hR, hc⟩ := hS.par hr
  obtain ⟨y, hy, -, -, hyi⟩ := (hR.root r hr).parent
  have hck := hc r hr
  rw [hy] at hck
  exact ⟨y, gp, cp, c1, hck, hyi⟩
set_option maxRecDepth 100000 in
set_option maxHeartbeats 4000000 in
theorem run89_any (g m base b lim : Nat) (hm : m = 2 * g) (hg : g ≤ 16) (hg1 : 1 ≤ g) (w : World) (vr vs : Value) (rels sub : List W) (hS : StR base b lim w (startS m)) (hbw : base ≤ w.heap.size) (hlim : lim ≤ 999999) (h1 : 1 ≤ lim) (hr : Words base w vr rels) (hs : Words base w vs sub) (hlr : ∀ j, LOk g (rels.getD j [])) (hls : ∀ j, LOk g (sub.getD j [])) :
    Calls Try.prog 89 #[.pointer (some ⟨b, 0, none⟩), .agg #[.int .i64 (g : Int), vr], vs] w fun e w' => ((∃ s', runS m lim rels sub = some s' ∧ e = .returned (.bool true) ∧ StR base b lim w' s') ∨ (runS m lim rels sub = none ∧ e = .returned (.bool false))) ∧ Below base w w' := by
  have HS0 := Lib.hid hS
  have HBW := Lib.hid hbw
  obtain ⟨Ar, cr, rfl, hra, hrc, -⟩ := (hr.tab (Below.refl _ _)).open_
  obtain ⟨As, cs, rfl, hsa, hsc, -⟩ := (hs.tab (Below.refl _ _)).open_
  have HG0 : Hid (Ct.Good g lim (startS m)) := Lib.hid (by rw [hm]; exact start_good h1)
  have HFQ : Hid (runS m lim rels sub = (optTo (subS m lim sub) sub.length (startS m)).bind (optTo (rowsS m lim rels) lim)) := Lib.hid rfl
  generalize runS m lim rels sub = F at *
  have hsb : (0 : Int) ≤ (sub.length : Int) := Int.natCast_nonneg _
  have hsb2 : (sub.length : Int) ≤ 9223372036854775807 := by omega
  have hrb : (0 : Int) ≤ (rels.length : Int) := Int.natCast_nonneg _
  have hrb2 : (rels.length : Int) ≤ 9223372036854775807 := by omega
  have HRW := Lib.hid hr
  have HSW := Lib.hid hs
  have HBX0 : Hid (∀ w1 : World, w1 = w.alloc (.cells #[.int .i64 (g : Int), .slice Ar rels.length cr] 40) → w1.heap[w.heap.size]? = some (.cells #[.int .i64 (g : Int), .slice Ar rels.length cr] 40 (0, 0)) ∧ Below w.heap.size w w1) := Lib.hid fun w1 h => by
    subst h
    exact ⟨heap_alloc_new w _, (Below.refl _ _).alloc (Nat.le_refl _) _⟩
  have HM := Lib.hid hm
  clear hr hs hS hbw hm
  go_enter Try.func89, Try.ntmps89
  go_wp2_with fail
  generalize hw1 : w.alloc (.cells #[.int .i64 (g : Int), .slice Ar rels.length cr] 40) = w1 at *
  obtain ⟨hbx, hb1⟩ := HBX0.out w1 rfl
  have HKF : Hid (Kf base w w1) := Lib.hid (Kf.of hb1 HBW.out)
  have HBX : Hid (∀ W, Kf base w1 W → W.cell? ⟨w.heap.size, 0, none⟩ = some (.int .i64 (g : Int)) ∧ W.cell? ⟨w.heap.size, 1, none⟩ = some (.slice Ar rels.length cr)) := Lib.hid fun W h => cell_of2 (h.2 _ _ hbx)
  have HS1 := Lib.hid (HS0.out.below hb1)
  clear hw1 hbx hb1 HBX0 HS0
  go_loopg [7] sub.length (fun n i wr => ∃ (k : Nat) (s1 : St), i = .int .i64 (k : Int) ∧ n = sub.length - k ∧ k ≤ sub.length ∧ Hid (optTo (subS m lim sub) k (startS m) = some s1 ∧ Ct.Good g lim s1 ∧ StR base b lim wr s1) ∧ Hid (Kf base w1 wr))
  case atStart => exact ⟨0, startS m, rfl, by omega, Nat.zero_le _, Lib.hid ⟨rfl, HG0.out, HS1.out⟩, Lib.hid (Kf.refl _ _)⟩
  case round =>
    clear HS1 HG0
    obtain ⟨k, s1, rfl, hgk, hk, HI, HB⟩ := hrel
    have HGK := Lib.hid hgk
    clear hgk
    have hk0 : (0 : Int) ≤ (k : Int) := Int.natCast_nonneg _
    have HB0 := Lib.hid (HKF.out.trans HB.out)
    by_cases hlt : k < sub.length
    · have hltI : (k : Int) < (sub.length : Int) := by omega
      obtain ⟨bs, os, c', u, e, hcell⟩ := HSW.out.at_ hlt
      injection e with e1 e2 e3
      subst e1 e3
      have hck := (hcell wr HB0.out.1).1
      have hgd := HI.out.2.1
      have HFI : Hid (Calls Try.prog 131 #[.pointer (some ⟨b, 0, none⟩), .int .i64 0, u] wr fun e w' => ((∃ s', fillS m lim s1 0 (sub.getD k []) = some s' ∧ e = .returned (.bool true) ∧ StR base b lim w' s') ∨ (fillS m lim s1 0 (sub.getD k []) = none ∧ e = .returned (.bool false))) ∧ Kf base wr w') := Lib.hid (fill131_any g m base b lim 0 HM.out hg hg1 wr s1 u (sub.getD k []) hgd.rest HI.out.2.2 (Nat.le_trans HBW.out HB0.out.size) hlim hgd.n2 (fun W h => (hcell W (HB0.out.1.trans h)).2) (hls k) (by have := hgd.n1; omega) (Ct.rp_zero hgd.rest (by have := hgd.n1; omega)))
      have HOP : Hid (optTo (subS m lim sub) (k + 1) (startS m) = fillS m lim s1 0 (sub.getD k [])) := Lib.hid (by rw [optTo_succ, HI.out.1]; rfl)
      clear hcell hgd
      generalize hfs : fillS m lim s1 0 (sub.getD k []) = fs at *
      have HFS := Lib.hid hfs
      clear hfs
      cases fs with
      | none =>
        have HE : Hid (F = none) := Lib.hid (by rw [HFQ.out, optTo_none HOP.out sub.length (by omega)]; rfl)
        have HFI' := Lib.hid (HFI.out.mono (R' := fun E w2 => E = .returned (.bool false) ∧ Kf base wr w2) fun E w2 ⟨h, hb⟩ => ⟨by
          rcases h with ⟨s', e, -⟩ | ⟨-, h⟩
          · cases e
          · exact h, hb⟩)
        clear HFI
        go_wp2_with (first
          | (go_at_call 131; (with_reducible refine HFI'.out.mono ?_); rintro E w2 ⟨rfl, hb2⟩
             have HB2 := Lib.hid (HB0.out.trans hb2)
             clear hb2))
        go_ret
        exact ⟨.inr ⟨HE.out, rfl⟩, HB2.out.1⟩
      | some s2 =>
        have HG2 : Hid (Ct.Good g lim s2) := Lib.hid (by
          have := HFS.out
          rw [HM.out] at this
          exact (fill_good HI.out.2.1 (by have := HI.out.2.1.n1; omega) (Ct.rp_zero HI.out.2.1.rest (by have := HI.out.2.1.n1; omega)) (hls k) this).1)
        have HFI' := Lib.hid (HFI.out.mono (R' := fun E w' => E = .returned (.bool true) ∧ StR base b lim w' s2 ∧ Kf base wr w') fun E w2 ⟨h, hb⟩ => by
          rcases h with ⟨s', e, h1, h2⟩ | ⟨e, -⟩
          · cases e
            exact ⟨h1, h2, hb⟩
          · cases e)
        clear HFI
        go_wp2_with (first
          | (go_at_call 131; (with_reducible refine HFI'.out.mono ?_); rintro E w2 ⟨rfl, hs2, hb2⟩
             have HB2 := Lib.hid (HB.out.trans hb2)
             have HS2 := Lib.hid hs2
             clear hb2 hs2))
        go_roundg (sub.length - (k + 1))
        case measure => have := HGK.out; omega
        case rel => exact ⟨k + 1, s2, by go_num, rfl, by omega, Lib.hid ⟨HOP.out, HG2.out, HS2.out⟩, HB2⟩
    · obtain rfl : k = sub.length := by omega
      have HFR : Hid (F = optTo (rowsS m lim rels) lim s1) := Lib.hid (by rw [HFQ.out, HI.out.1]; rfl)
      clear hlt
      go_wp2_with fail
      go_loopg [8] (lim + 1) (fun n i wr => ∃ (k : Nat) (s2 : St), i = .int .i64 (k : Int) ∧ n = lim + 1 - k ∧ k ≤ s2.t.length ∧ Hid (optTo (rowsS m lim rels) k s1 = some s2 ∧ Ct.Good g lim s2 ∧ StR base b lim wr s2) ∧ Hid (Kf base w1 wr))
      case atStart => exact ⟨0, s1, rfl, by omega, Nat.zero_le _, Lib.hid ⟨rfl, HI.out.2.1, HI.out.2.2⟩, HB⟩
      case round =>
        clear HI HB HB0
        obtain ⟨k, s2, rfl, hgk, hk2, HI, HB⟩ := hrel
        have HB0 := Lib.hid (HKF.out.trans HB.out)
        have hk0 : (0 : Int) ≤ (k : Int) := Int.natCast_nonneg _
        obtain ⟨A2, c2, hc2, -, -⟩ := HI.out.2.2.tops
        have hn2 : s2.t.length ≤ lim := HI.out.2.1.n2
        have HGK := Lib.hid hgk
        clear hgk
        by_cases hlt : k < s2.t.length
        · have HKL := Lib.hid hlt
          have hltI : (k : Int) < (s2.t.length : Int) := by omega
          have hn2I : (s2.t.length : Int) ≤ 999999 := by omega
          clear hlt
          go_upto_block 4 with fail
          go_cut [] from 33 to 59 (fun wx => ∃ s3, Hid (optTo (relS m lim rels k) rels.length s2 = some s3 ∧ StR base b lim wx s3) ∧ Hid (Kf base w1 wx))
          case first =>
            go_wp2_with fail
            go_loopg [9] rels.length (fun n i wx => ∃ (j : Nat) (s3 : St), i = .int .i64 (j : Int) ∧ n = rels.length - j ∧ j ≤ rels.length ∧ Hid (optTo (relS m lim rels k) j s2 = some s3 ∧ StR base b lim wx s3) ∧ Hid (Kf base w1 wx))
            case atStart => exact ⟨0, s2, rfl, by omega, Nat.zero_le _, Lib.hid ⟨rfl, HI.out.2.2⟩, HB⟩
            case round =>
              obtain ⟨j, s3, rfl, hgj, hj, HI3, HB3⟩ := hrel
              have HB30 := Lib.hid (HKF.out.trans HB3.out)
              have hj0 : (0 : Int) ≤ (j : Int) := Int.natCast_nonneg _
              have HGJ := Lib.hid hgj
              clear hgj
              have HG3 : Hid (Ct.Good g lim s3 ∧ Ext g s2 s3) := Lib.hid (by
                have := HI3.out.1
                rw [HM.out] at this
                exact rel_good (fun j _ => hlr j) HI.out.2.1 HKL.out this)
              have hk3 : k < s3.t.length := Nat.lt_of_lt_of_le HKL.out HG3.out.2.n
              have hk3I : (k : Int) < (s3.t.length : Int) := by omega
              have hx1 := (HBX.out _ HB3.out).2
              obtain ⟨y, gp, cp, p1, p2, hyi⟩ := HI3.out.2.live hk3
              have HYI := Lib.hid hyi
              clear hyi
              by_cases hjl : j < rels.length
              · have hjlI : (j : Int) < (rels.length : Int) := by omega
                obtain ⟨bs, os, c', u, e, hcell⟩ := HRW.out.at_ hjl
                injection e with e1 e2 e3
                subst e1 e3
                have hck := (hcell _ HB30.out.1).1
                by_cases hal : s3.rp k = k
                · obtain rfl : y = k := HYI.out.2 hal
                  have d1 : ((y : Int) == (y : Int)) = true := by simp
                  have HFI := Lib.hid (fill131_any g m base b lim y HM.out hg hg1 _ s3 u (rels.getD j []) HG3.out.1.rest HI3.out.2 (Nat.le_trans HBW.out HB30.out.size) hlim HG3.out.1.n2 (fun W' h' => (hcell W' (HB30.out.1.trans h')).2) (hlr j) hk3 hal)
                  have HOP : Hid (optTo (relS m lim rels y) (j + 1) s2 = fillS m lim s3 y (rels.getD j [])) := Lib.hid (by
                    rw [optTo_succ, HI3.out.1]
                    exact if_pos hal)
                  clear hcell hal
                  generalize hfs : fillS m lim s3 y (rels.getD j []) = fs at *
                  have HFS := Lib.hid hfs
                  clear hfs
                  cases fs with
                  | none =>
                    have HE : Hid (F = none) := Lib.hid (by
                      rw [HFR.out]
                      refine optTo_none (k := y + 1) ?_ lim (by have := HKL.out; omega)
                      rw [optTo_succ, HI.out.1]
                      show rowsS m lim rels y s2 = none
                      unfold rowsS rowS
                      rw [if_pos HKL.out, optTo_none HOP.out rels.length (by omega)]
                      rfl)
                    have HFI' := Lib.hid (HFI.out.mono (R' := fun E w2 => E = .returned (.bool false) ∧ Kf base _ w2) fun E w2 ⟨h, hb⟩ => ⟨by
                      rcases h with ⟨s', e, -⟩ | ⟨-, h⟩
                      · cases e
                      · exact h, hb⟩)
                    clear HFI
                    go_wp2_with (first
                      | (go_at_call 131; (with_reducible refine HFI'.out.mono ?_); rintro E w2 ⟨rfl, hb2⟩
                         have HB2 := Lib.hid (HB30.out.trans hb2)
                         clear hb2))
                    go_ret
                    exact ⟨.inr ⟨HE.out, rfl⟩, HB2.out.1⟩
                  | some s4 =>
                    have HFI' := Lib.hid (HFI.out.mono (R' := fun E w' => E = .returned (.bool true) ∧ StR base b lim w' s4 ∧ Kf base _ w') fun E w2 ⟨h, hb⟩ => by
                      rcases h with ⟨s', e, h1, h2⟩ | ⟨e, -⟩
                      · cases e
                        exact ⟨h1, h2, hb⟩
                      · cases e)
                    clear HFI
                    go_wp2_with (first
                      | (go_at_call 131; (with_reducible refine HFI'.out.mono ?_); rintro E w2 ⟨rfl, hs2, hb2⟩
                         have HB2 := Lib.hid (HB3.out.trans hb2)
                         have HS2 := Lib.hid hs2
                         clear hb2 hs2))
                    go_roundg (rels.length - (j + 1))
                    case measure => have := HGJ.out; omega
                    case rel => exact ⟨j + 1, s4, by go_num, rfl, by omega, Lib.hid ⟨HOP.out, HS2.out⟩, HB2⟩
                · have hyk : ¬ y = k := fun h => hal (HYI.out.1 h)
                  have d1 : ((y : Int) == (k : Int)) = false := by rw [beq_eq_false_iff_ne]; omega
                  have HOP : Hid (optTo (relS m lim rels k) rels.length s2 = some s3) := Lib.hid (opt_stop HI3.out.1 (fun i _ => relS_dead hal) _ hj)
                  clear hcell hal hyk
                  go_wp2_with fail
                  go_meet
                  case rel => exact ⟨s3, Lib.hid ⟨HOP.out, HI3.out.2⟩, HB3⟩
              · obtain rfl : j = rels.length := by omega
                clear hjl
                go_wp2_with fail
                go_meet
                case rel => exact ⟨s3, HI3, HB3⟩
          case rest =>
            clear hc2
            obtain ⟨s3, HI3, HB3⟩ := hcut
            have HG3 : Hid (Ct.Good g lim s3 ∧ Ext g s2 s3) := Lib.hid (by
              have := HI3.out.1
              rw [HM.out] at this
              exact rel_good (fun j _ => hlr j) HI.out.2.1 HKL.out this)
            have hk3 : k < s3.t.length := Nat.lt_of_lt_of_le HKL.out HG3.out.2.n
            have hgI : (g : Int) ≤ 16 := by omega
            have hg0 : (1 : Int) ≤ (g : Int) := by omega
            go_wp2_with fail
            go_loopg [10] m (fun n i wx => ∃ (c : Nat) (s4 : St), i = .int .i64 (c : Int) ∧ n = m - c ∧ c ≤ m ∧ Hid (optTo (colS m lim k) c s3 = some s4 ∧ StR base b lim wx s4) ∧ Hid (Kf base w1 wx))
            case atStart => exact ⟨0, s3, rfl, by omega, Nat.zero_le _, Lib.hid ⟨rfl, HI3.out.2⟩, HB3⟩
            case round =>
              obtain ⟨c, s4, rfl, hgc, hc, HI4, HB4⟩ := hrel
              have HB40 := Lib.hid (HKF.out.trans HB4.out)
              have HGC := Lib.hid hgc
              clear hgc
              have hc0 : (0 : Int) ≤ (c : Int) := Int.natCast_nonneg _
              have HG4 : Hid (Ct.Good g lim s4 ∧ Ext g s3 s4) := Lib.hid (by
                have := HI4.out.1
                rw [HM.out] at this
                obtain ⟨a1, a2, -⟩ := col_good HG3.out.1 hk3 (by have := HM.out; omega) this
                exact ⟨a1, a2⟩)
              have hk4 : k < s4.t.length := Nat.lt_of_lt_of_le hk3 HG4.out.2.n
              have hk4I : (k : Int) < (s4.t.length : Int) := by omega
              have hx0 := (HBX.out _ HB4.out).1
              obtain ⟨y, gp, cp, p1, p2, hyi⟩ := HI4.out.2.live hk4
              have HYI := Lib.hid hyi
              clear hyi
              have HEND : Hid (optTo (colS m lim k) m s3 = some s4 → optTo (rowsS m lim rels) (k + 1) s1 = some s4) := Lib.hid (fun h => by
                rw [optTo_succ, HI.out.1]
                show rowsS m lim rels k s2 = some s4
                unfold rowsS rowS
                rw [if_pos HKL.out, HI3.out.1]
                exact h)
              have HGE : Hid (k + 1 ≤ s4.t.length) := Lib.hid (by omega)
              by_cases hcm : c < m
              · have hcmI : (c : Int) < 2 * (g : Int) := by have := HM.out; omega
                have hcmI2 : (c : Int) < (m : Int) := by omega
                by_cases hal : s4.rp k = k
                · obtain rfl : y = k := HYI.out.2 hal
                  have d1 : ((y : Int) == (y : Int)) = true := by simp
                  have HAH := Lib.hid hal
                  clear hal
                  obtain ⟨gr, cr4, br, kr, a1, a2, a3⟩ := HI4.out.2.at_ HG4.out.1.rest.inv hk4 (c := c) (by rw [← HM.out]; exact hcm)
                  rw [← HM.out] at a2
                  by_cases hneg : s4.t.at y c < 0
                  · have hd5 : decide (s4.t.at y c < 0) = true := decide_eq_true hneg
                    by_cases hfull : s4.t.length = lim
                    · have HE : Hid (F = none) := Lib.hid (by
                        rw [HFR.out]
                        refine optTo_none (k := y + 1) ?_ lim (by have := HKL.out; omega)
                        rw [optTo_succ, HI.out.1]
                        show rowsS m lim rels y s2 = none
                        unfold rowsS rowS
                        rw [if_pos HKL.out, HI3.out.1]
                        refine optTo_none (k := c + 1) ?_ m (by omega)
                        rw [optTo_succ, HI4.out.1]
                        show colS m lim y c s4 = none
                        unfold colS
                        rw [if_pos ⟨HAH.out, hneg⟩, if_pos hfull])
                      have HD : Hid (∀ W, StR base b lim W s4 → base ≤ W.heap.size → Calls Try.prog 132 #[.pointer (some ⟨b, 0, none⟩), .int .i64 (y : Int), .int .i64 (c : Int)] W fun e w' => e = .returned (.bool false) ∧ Kf base W w') := Lib.hid fun W h hw => by
                        subst hfull
                        exact define132_full base b y c W s4 h hw (by omega)
                      clear hfull
                      go_wp2_with (first
                        | (go_at_call 132; (with_reducible refine (HD.out _ HI4.out.2 (Nat.le_trans HBW.out HB40.out.size)).mono ?_); rintro E w2 ⟨rfl, hb2⟩
                           have HB2 := Lib.hid (HB40.out.trans hb2)
                           clear hb2))
                      go_ret
                      exact ⟨.inr ⟨HE.out, rfl⟩, HB2.out.1⟩
                    · have HOP : Hid (optTo (colS m lim y) (c + 1) s3 = some (defS m s4 y c)) := Lib.hid (by
                        rw [optTo_succ, HI4.out.1]
                        show colS m lim y c s4 = _
                        unfold colS
                        rw [if_pos ⟨HAH.out, hneg⟩, if_neg hfull])
                      have HD : Hid (∀ W, StR base b lim W s4 → base ≤ W.heap.size → Calls Try.prog 132 #[.pointer (some ⟨b, 0, none⟩), .int .i64 (y : Int), .int .i64 (c : Int)] W fun e w' => e = .returned (.bool true) ∧ StR base b lim w' (defS m s4 y c) ∧ Kf base W w') := Lib.hid fun W h hw => by
                        exact define132_any g m base b lim y c HM.out hg hg1 W s4 HG4.out.1.rest h hw (by have := HG4.out.1.n2; omega) hk4 hcm (by have := HG4.out.1.n2; omega)
                      clear hfull
                      go_wp2_with (first
                        | (go_at_call 132; (with_reducible refine (HD.out _ HI4.out.2 (Nat.le_trans HBW.out HB40.out.size)).mono ?_); rintro E w2 ⟨rfl, hs2, hb2⟩
                           have HS2 := Lib.hid hs2
                           have HB2 := Lib.hid (HB4.out.trans hb2)
                           clear hs2 hb2))
                      go_roundg (m - (c + 1))
                      case measure => have := HGC.out; omega
                      case rel => exact ⟨c + 1, _, by go_num, rfl, by omega, Lib.hid ⟨HOP.out, HS2.out⟩, HB2⟩
                  · have hd5 : decide (s4.t.at y c < 0) = false := decide_eq_false hneg
                    have HOP : Hid (optTo (colS m lim y) (c + 1) s3 = some s4) := Lib.hid (by
                      rw [optTo_succ, HI4.out.1]
                      show colS m lim y c s4 = _
                      unfold colS
                      rw [if_neg fun h' => hneg h'.2])
                    go_wp2_with fail
                    go_roundg (m - (c + 1))
                    case measure => have := HGC.out; omega
                    case rel => exact ⟨c + 1, s4, by go_num, rfl, by omega, Lib.hid ⟨HOP.out, HI4.out.2⟩, HB4⟩
                · have hyk : ¬ y = k := fun h => hal (HYI.out.1 h)
                  have d1 : ((y : Int) == (k : Int)) = false := by rw [beq_eq_false_iff_ne]; omega
                  have HFIN : Hid (optTo (rowsS m lim rels) (k + 1) s1 = some s4) := Lib.hid (HEND.out (opt_stop HI4.out.1 (fun i _ => colS_dead hal) _ hc))
                  clear hal hyk
                  go_wp2_with fail
                  go_roundg (lim + 1 - (k + 1))
                  case measure => have := HGK.out; have := HKL.out; omega
                  case rel => exact ⟨k + 1, s4, by go_num, rfl, HGE.out, Lib.hid ⟨HFIN.out, HG4.out.1, HI4.out.2⟩, HB4⟩
              · obtain rfl : c = m := by omega
                have HFIN : Hid (optTo (rowsS c lim rels) (k + 1) s1 = some s4) := Lib.hid (HEND.out HI4.out.1)
                have hcmI : ¬ (c : Int) < 2 * (g : Int) := by have := HM.out; omega
                clear hcm
                go_wp2_with fail
                go_roundg (lim + 1 - (k + 1))
                case measure => have := HGK.out; have := HKL.out; omega
                case rel => exact ⟨k + 1, s4, by go_num, rfl, HGE.out, Lib.hid ⟨HFIN.out, HG4.out.1, HI4.out.2⟩, HB4⟩
        · have HE : Hid (F = some s2) := Lib.hid (by
            rw [HFR.out]
            exact opt_stop HI.out.1 (fun i hi => rowsS_stop (by omega)) lim (by omega))
          clear hn2
          go_wp2_with fail
          go_ret
          exact ⟨.inl ⟨s2, HE.out, rfl, HI.out.2.2⟩, HB0.out.1⟩
end Go.Proofs
namespace Go.Proofs.Ct
/-- the numbers of the live cosets below k -/
def nmL (s : St) (k : Nat) : List Int := (List.range s.t.length).map fun i => if i < k ∧ s.rp i = i then (num s i : Int) else 0
theorem length_nmL (s : St) (k : Nat) : (nmL s k).length = s.t.length := by simp [nmL]
theorem nmL_getD (s : St) (k : Nat) {i : Nat} (h : i < s.t.length) : (nmL s k).getD i 0 = if i < k ∧ s.rp i = i then (num s i : Int) else 0 := by
  unfold nmL
  simp [List.getD_eq_getElem?_getD, h]
theorem nmL_zero (s : St) : nmL s 0 = List.replicate s.t.length 0 := getD_ext (d := 0) (by simp [length_nmL]) fun i hi => by
  rw [length_nmL] at hi
  rw [nmL_getD s 0 hi, if_neg (by omega)]
  simp [List.getD_eq_getElem?_getD, hi]
theorem nmL_live {s : St} {k : Nat} (h : k < s.t.length) (hl : s.rp k = k) : nmL s (k + 1) = (nmL s k).set k (num s k) := getD_ext (d := 0) (by simp [length_nmL]) fun i hi => by
  rw [length_nmL] at hi
  rw [nmL_getD s _ hi, getD_set, length_nmL]
  by_cases e : k = i
  · subst e; rw [if_pos ⟨by omega, hl⟩, if_pos ⟨rfl, h⟩]
  · rw [if_neg (fun h' : k = i ∧ k < s.t.length => e h'.1), nmL_getD s _ hi]
    by_cases h2 : i < k ∧ s.rp i = i
    · rw [if_pos h2, if_pos ⟨by omega, h2.2⟩]
    · rw [if_neg h2, if_neg (fun h' => h2 ⟨by omega, h'.2⟩)]
theorem nmL_dead {s : St} {k : Nat} (hl : s.rp k ≠ k) : nmL s (k + 1) = nmL s k := getD_ext (d := 0) (by simp [length_nmL]) fun i hi => by
  rw [length_nmL] at hi
  rw [nmL_getD s _ hi, nmL_getD s _ hi]
  by_cases h2 : i < k ∧ s.rp i = i
  · rw [if_pos h2, if_pos ⟨by omega, h2.2⟩]
  · rw [if_neg h2, if_neg (fun h' => h2 ⟨by
      rcases Nat.lt_or_ge i k with h3 | h3
      · exact h3
      · obtain rfl : i = k := by omega
        exact absurd h'.2 hl, h'.2⟩)]
/-- the rows of the live cosets below k -/
def tabTo (s : St) (k : Nat) : Tb := (livTo s k).map fun x => (s.t.row x).map fun v => (num s v.toNat : Int)
theorem tabTo_live {s : St} {k : Nat} (hl : s.rp k = k) : tabTo s (k + 1) = tabTo s k ++ [(s.t.row k).map fun v => (num s v.toNat : Int)] := by
  unfold tabTo
  rw [livTo_succ, if_pos hl, List.map_append]
  rfl
theorem tabTo_dead {s : St} {k : Nat} (hl : s.rp k ≠ k) : tabTo s (k + 1) = tabTo s k := by
  unfold tabTo
  rw [livTo_succ, if_neg hl]
theorem length_tabTo (s : St) (k : Nat) : (tabTo s k).length = (livTo s k).length := by simp [tabTo]
end Go.Proofs.Ct
namespace Go.Proofs
open Go.RowKit Go.Shelf Go.Proofs.Ct Go.Maps
theorem OutSt2.set {e : TypeId} (he : e ≠ 3) {F : Nat → Prop} {w0 wr : World} {vout vr : Value} {rows : List (List Int)} {x : List Int} (h : OutSt2 e F w0 wr vout vr rows x) {g k : Nat} (hg : vr.ownBlock = some g) (hk : k < x.length) (z : Int) : OutSt2 e F w0 (wr.setCell ⟨g, k, none⟩ (.int .i64 z)) vout vr rows (x.set k z) := by
  obtain ⟨h1, C, hC⟩ := owns_block h.row g hg
  refine ⟨h.st.grown (grown_setCell wr g k _) fun r hr => ?_, ownI_set h.row hg hk z, h.ap⟩
  obtain rfl : g = r := Option.some.inj hr
  refine ⟨h1, h.ap g hg, fun e' => ?_⟩
  obtain ⟨-, C', hC'⟩ := h.st.out.block g e'
  rw [hC] at hC'
  injection hC' with h5
  injection h5 with _ h6 _
  exact he h6.symm
end Go.Proofs
namespace Go.Proofs
open Go.RowKit Go.Shelf Go.Proofs.Ct Go.Maps
theorem xs_made (w : World) (s : St) : XsAt (w.alloc (.cells (Array.replicate s.t.length (.int .i64 0)) 3)) w.heap.size (nmL s 0) := by
  refine ⟨_, heap_alloc_new w _, by simp [length_nmL], fun k hk => ?_⟩
  rw [length_nmL] at hk
  rw [nmL_zero]
  simp [List.getD_eq_getElem?_getD, hk]
theorem fits_tab {g lim : Nat} {s : St} (_hG : Ct.Good g lim s) (hn : s.t.length ≤ 20000) (x : List Int) (hx : ∀ v ∈ x, v.toNat ≤ s.t.length) : Fits (x.map fun v => (num s v.toNat : Int)) := fun z hz => by
  obtain ⟨v, hv, rfl⟩ := List.mem_map.1 hz
  have := livTo_le s v.toNat
  have := hx v hv
  show -9223372036854775808 ≤ ((num s v.toNat : Nat) : Int) ∧ ((num s v.toNat : Nat) : Int) ≤ 9223372036854775807
  unfold num
  omega
end Go.Proofs
namespace Go.Proofs
open Go.RowKit Go.Shelf Go.Proofs.Ct Go.Maps
set_option maxRecDepth 100000 in
set_option maxHeartbeats 4000000 in
theorem result90_any (g m base b lim : Nat) (hm : m = 2 * g) (hg : g ≤ 16) (hg1 : 1 ≤ g) (w : World) (s : St) (hS : StR base b lim w s) (hG : Ct.Good g lim s) (hC : Comp g s s.t.length) (hlim : lim ≤ 20000) :
    Calls Try.prog 90 #[.pointer (some ⟨b, 0, none⟩), .int .i64 (g : Int)] w fun e w' => ∃ u, e = .returned u ∧ TabB w.heap.size w' u (stdE g (tabS s) 0).1 ∧ Below w.heap.size w w' := by
  have hn : s.t.length ≤ 20000 := Nat.le_trans hG.n2 hlim
  have hn1 := hG.n1
  have hn0 : (s.t.length : Int) ≤ 20000 := by omega
  have hn2 : (0 : Int) ≤ (s.t.length : Int) := Int.natCast_nonneg _
  obtain ⟨gr, cr, bl, cs, hrows, hv1, hv2⟩ := hS.view hG.rest.inv.len (by omega)
  have HRO := Lib.hid hrows
  have HV1 : Hid (∀ W, Below w.heap.size w W → ∀ r, r < s.t.length → W.cell? ⟨gr, r, none⟩ = some (.slice (some ⟨bl r, 0, none⟩) (2 * g) (cs r))) := Lib.hid fun W h r hr => (h.cell (p := ⟨gr, r, none⟩) (World.block_lt_of_cell? w _ (hv1 r hr))).trans (hv1 r hr)
  have HV2 : Hid (∀ W, Below w.heap.size w W → ∀ r c, r < s.t.length → c < 2 * g → W.cell? ⟨bl r, c, none⟩ = some (.int .i64 (s.t.at r c))) := Lib.hid fun W h r c hr hc => (h.cell (p := ⟨bl r, c, none⟩) (World.block_lt_of_cell? w _ (hv2 r c hr hc).1)).trans (hv2 r c hr hc).1
  have HVO : Hid (∀ W, Below w.heap.size w W → W.cell? ⟨b, 0, none⟩ = some (.slice (some ⟨gr, 0, none⟩) s.t.length cr)) := Lib.hid fun W h => (h.cell (p := ⟨b, 0, none⟩) (World.block_lt_of_cell? w _ hrows)).trans hrows
  have HS := Lib.hid hS
  have HG := Lib.hid hG
  have HC := Lib.hid hC
  have HM := Lib.hid hm
  have HTS := Lib.hid (tab_std hg1 hg hlim hG hC)
  have HR1 : Hid ((Instr.makeSlice 24 (.int .i64 (s.t.length : Int)) (.int .i64 (s.t.length : Int))).run Try.prog w = .ok (.slice (some ⟨w.heap.size, 0, none⟩) s.t.length s.t.length) (w.alloc (.cells (Array.replicate s.t.length (.int .i64 0)) 3))) := Lib.hid (make24r w _ (by omega))
  have HX1 := Lib.hid (xs_made w s)
  have HB1 : Hid (Below w.heap.size w (w.alloc (.cells (Array.replicate s.t.length (.int .i64 0)) 3))) := Lib.hid ((Below.refl _ _).alloc (Nat.le_refl _) _)
  generalize w.alloc (.cells (Array.replicate s.t.length (.int .i64 0)) 3) = W1 at *
  clear hS hG hC hm hv1 hv2
  go_enter Try.func90, Try.ntmps90
  go_wp2_with ((with_reducible refine wpList_sel 17 ?_); refine wpList_val rfl (r_make 24 (.tmp 16) (.tmp 16) rfl rfl rfl HR1.out) ?_)
  clear hrows
  go_loopg [7, 8] s.t.length (fun n v i wr => ∃ k : Nat, i = .int .i64 (k : Int) ∧ n = s.t.length - k ∧ k ≤ s.t.length ∧ v = .int .i64 ((num s k : Nat) : Int) ∧ Hid (XsAt wr w.heap.size (nmL s k)) ∧ Hid (Below w.heap.size w wr))
  case atStart => exact ⟨0, rfl, by omega, Nat.zero_le _, rfl, HX1, HB1⟩
  case round =>
    clear HX1 HB1
    obtain ⟨k, rfl, hgk, hk, rfl, HX, HB⟩ := hrel
    have HGK := Lib.hid hgk
    clear hgk
    have hk0 : (0 : Int) ≤ (k : Int) := Int.natCast_nonneg _
    have hnk : num s k ≤ k := livTo_le s k
    have hnk0 : (0 : Int) ≤ ((num s k : Nat) : Int) := Int.natCast_nonneg _
    have hnk1 : ((num s k : Nat) : Int) ≤ 20000 := by omega
    have hrowsk := HVO.out _ HB.out
    by_cases hlt : k < s.t.length
    · have hltI : (k : Int) < (s.t.length : Int) := by omega
      obtain ⟨y, gp, cp, p1, p2, hyi⟩ := (HS.out.below HB.out).live hlt
      have HYI := Lib.hid hyi
      clear hyi
      by_cases hal : s.rp k = k
      · obtain rfl : y = k := HYI.out.2 hal
        have d1 : ((y : Int) == (y : Int)) = true := by simp
        have HNL : Hid (nmL s (y + 1) = (nmL s y).set y (num s y)) := Lib.hid (nmL_live hlt hal)
        have HNK : Hid (num s (y + 1) = num s y + 1) := Lib.hid (by
          unfold num
          rw [livTo_succ, if_pos hal]
          simp)
        have hcx := HX.out.cell (k := y) (by rw [length_nmL]; exact hlt)
        have hfx := HX.out.frozen y
        have HX2 := Lib.hid (HX.out.set (k := y) (by rw [length_nmL]; exact hlt) (num s y))
        clear hal
        go_wp2_with fail
        go_roundg (s.t.length - (y + 1))
        case measure => have := HGK.out; omega
        case rel => exact ⟨y + 1, by go_num, rfl, by omega, by rw [HNK.out]; go_num, Lib.hid (by rw [HNL.out]; exact HX2.out), Lib.hid (HB.out.grown (grown_setCell _ _ _ _) HB.out.size (fun k hk => by cases hk; exact Nat.le_refl _))⟩
      · have hyk : ¬ y = k := fun h => hal (HYI.out.1 h)
        have d1 : ((y : Int) == (k : Int)) = false := by rw [beq_eq_false_iff_ne]; omega
        have HNL : Hid (nmL s (k + 1) = nmL s k) := Lib.hid (nmL_dead hal)
        have HNK : Hid (num s (k + 1) = num s k) := Lib.hid (by
          unfold num
          rw [livTo_succ, if_neg hal])
        clear hal hyk
        go_wp2_with fail
        go_roundg (s.t.length - (k + 1))
        case measure => have := HGK.out; omega
        case rel => exact ⟨k + 1, by go_num, rfl, by omega, by rw [HNK.out], Lib.hid (by rw [HNL.out]; exact HX.out), HB⟩
    · obtain rfl : k = s.t.length := by omega
      rename World => W2
      clear hlt
      have HST : Hid (OutSt 24 (fun _ => False) W2 W2 (.slice none 0 0) (tabTo s 0)) := Lib.hid (OutSt.nil 24 (Below.refl _ _))
      have HXN := HX
      have HBN := HB
      go_wp2_with fail
      go_loopg [6, 9] s.t.length (fun n v i wr => ∃ k : Nat, i = .int .i64 (k : Int) ∧ n = s.t.length - k ∧ k ≤ s.t.length ∧ ∃ (F : Nat → Prop) (A : Option Addr) (c : Nat), v = .slice A (tabTo s k).length c ∧ Hid (OutSt 24 F W2 wr (.slice A (tabTo s k).length c) (tabTo s k)))
      case atStart => exact ⟨0, rfl, by omega, Nat.zero_le _, _, none, 0, rfl, HST⟩
      case round =>
        clear HST HX HB HGK hnk hnk0 hnk1 hk0 hk hrowsk
        obtain ⟨k, rfl, hgk, hk, F, A, cA, rfl, HO⟩ := hrel
        have HGK := Lib.hid hgk
        clear hgk
        have hk0 : (0 : Int) ≤ (k : Int) := Int.natCast_nonneg _
        have HBK := Lib.hid (HBN.out.trans (HO.out.below.mono HBN.out.size))
        have a1 := HVO.out _ HBK.out
        by_cases hlt : k < s.t.length
        · have hltI : (k : Int) < (s.t.length : Int) := by omega
          obtain ⟨y, gp, cp, p1, p2, hyi⟩ := (HS.out.below HBK.out).live hlt
          have HYI := Lib.hid hyi
          clear hyi
          by_cases hal : s.rp k = k
          · obtain rfl : y = k := HYI.out.2 hal
            have d1 : ((y : Int) != (y : Int)) = false := by simp
            have HTL : Hid (tabTo s (y + 1) = tabTo s y ++ [(s.t.row y).map fun v => (num s v.toNat : Int)]) := Lib.hid (tabTo_live hal)
            have HRW : Hid (∀ c, c < 2 * g → ∃ z : Nat, s.t.at y c = (z : Int) ∧ z < s.t.length ∧ s.rp z = z) := Lib.hid fun c hc => by
              have h0 := HC.out y hlt hlt c hc
              rw [hal] at h0
              obtain ⟨z, hz⟩ := Int.eq_ofNat_of_zero_le h0
              obtain ⟨-, h2, h3⟩ := HG.out.rest.live hlt hc (show Ct.Edge s.t y c z from hz)
              exact ⟨z, hz, h3, h2⟩
            have HRL := Lib.hid (HG.out.rest.inv.len y hlt)
            have HRB : Hid (∀ v ∈ s.t.row y, v.toNat ≤ s.t.length) := Lib.hid fun v hv => by
              obtain ⟨c, hc, rfl⟩ := List.mem_iff_getElem.1 hv
              obtain ⟨z, hz, hz1, -⟩ := HRW.out c (by rw [← HG.out.rest.inv.len y hlt]; exact hc)
              unfold Tb.at at hz
              rw [List.getD_eq_getElem?_getD, List.getElem?_eq_getElem hc] at hz
              simp at hz
              omega
            have HTK := Lib.hid (length_tabTo s y)
            have HLK := Lib.hid (livTo_le s y)
            have HRN := Lib.hid HO.out.row_nil
            have HYL := Lib.hid hlt
            clear hal
            go_wp2_with fail
            go_loopg [10, 11] (2 * g) (fun n v i wx => ∃ (c : Nat) (A6 : Option Addr) (c6 : Nat), i = .int .i64 (c : Int) ∧ n = 2 * g - c ∧ c ≤ 2 * g ∧ v = .slice A6 c c6 ∧ Hid (OutSt2 24 F W2 wx (.slice A (tabTo s y).length cA) (.slice A6 c c6) (tabTo s y) (((s.t.row y).take c).map (fun v => (num s v.toNat : Int)))))
            case atStart => exact ⟨0, none, 0, rfl, by omega, Nat.zero_le _, rfl, HRN⟩
            case round =>
              clear HRN
              obtain ⟨c, A6, c6, rfl, hgc, hc, rfl, HO4⟩ := hrel
              have HGC := Lib.hid hgc
              clear hgc
              have hc0 : (0 : Int) ≤ (c : Int) := Int.natCast_nonneg _
              have HBX := Lib.hid (HBN.out.trans (HO4.out.st.below.mono HBN.out.size))
              have b1 := HVO.out _ HBX.out
              have b2 := HV1.out _ HBX.out y HYL.out
              by_cases hcg : c < 2 * g
              · have hcI : (c : Int) < 2 * (g : Int) := by omega
                obtain ⟨z, hz, hz1, hz2⟩ := HRW.out c hcg
                have b3 := HV2.out _ HBX.out y c HYL.out hcg
                rw [hz] at b3
                have hx2 := (HXN.out.below HO4.out.st.below).cell (k := z) (by rw [length_nmL]; exact hz1)
                rw [nmL_getD s _ hz1, if_pos ⟨hz1, hz2⟩] at hx2
                have hxl : (((s.t.row y).take c).map (fun v => (num s v.toNat : Int))).length = c := by rw [List.length_map, List.length_take, HRL.out]; omega
                obtain ⟨A8, c8, w8, hr8, hS8⟩ := HO4.out.add (by decide) 24 Try.underlying24 (num s z : Int) (by rw [hxl]; omega)
                have hsn := map_take_succ (f := fun v => (num s v.toNat : Int)) (show c < (s.t.row y).length by rw [HRL.out]; exact hcg)
                have hzz : (s.t.row y).getD c 0 = (z : Int) := hz
                rw [hzz] at hsn
                simp only [Int.toNat_natCast] at hsn
                rw [← hsn, hxl] at hS8
                rw [hxl] at hr8
                have HR8 := Lib.hid hr8
                have HS8 := Lib.hid hS8
                have hz0 : (0 : Int) ≤ (z : Int) := Int.natCast_nonneg _
                have hzI : (z : Int) < (s.t.length : Int) := by omega
                clear hr8 hS8 hsn hzz hz hxl
                generalize bl y = by' at *
                generalize cs y = cy at *
                go_wp2_with ((with_reducible refine wpList_sel 87 ?_); refine wpList_val rfl (r_app (.tmp 72) (.tmp 86) 24 rfl rfl rfl HR8.out) ?_)
                go_roundg (2 * g - (c + 1))
                case measure => have := HGC.out; omega
                case rel => exact ⟨c + 1, A8, c8, by go_num, rfl, by omega, rfl, HS8⟩
              · obtain rfl : c = 2 * g := by omega
                have hS := HO4.out
                rw [List.take_of_length_le (by rw [HRL.out]; exact Nat.le_refl _)] at hS
                obtain ⟨A8, c8, w8, hr8, hS8⟩ := hS.done (by decide) Try.underlying23 info24p (fits_tab HG.out (by omega) _ HRB.out) (by have := HTK.out; have := HLK.out; omega)
                rw [← HTL.out] at hS8
                have hlen : (tabTo s (y + 1)).length = (tabTo s y).length + 1 := by rw [HTL.out]; simp
                rw [← hlen] at hr8 hS8
                have HR8 := Lib.hid hr8
                have HS8 := Lib.hid hS8
                clear hr8 hS8 hS hlen
                generalize bl y = by' at *
                generalize cs y = cy at *
                go_wp2_with ((with_reducible refine wpList_sel 91 ?_); refine wpList_val rfl (r_app (.tmp 88) (.tmp 90) 23 rfl rfl rfl HR8.out) ?_)
                go_roundg (s.t.length - (y + 1))
                case measure => have := HGK.out; omega
                case rel => exact ⟨y + 1, by go_num, rfl, by omega, _, A8, c8, rfl, HS8⟩
          · have hyk : ¬ y = k := fun h => hal (HYI.out.1 h)
            have d1 : ((y : Int) != (k : Int)) = true := by simp; omega
            have HTL : Hid (tabTo s (k + 1) = tabTo s k) := Lib.hid (tabTo_dead hal)
            clear hal hyk
            go_wp2_with fail
            go_roundg (s.t.length - (k + 1))
            case measure => have := HGK.out; omega
            case rel =>
              have h1 := HO.out
              have h2 := HTL.out
              rw [← h2] at h1 ⊢
              exact ⟨k + 1, by go_num, rfl, by omega, F, A, cA, rfl, Lib.hid h1⟩
        · obtain rfl : k = s.t.length := by omega
          clear hlt
          have HT : Hid (Tab _ (.slice A (tabTo s s.t.length).length cA) (tabS s)) := Lib.hid HO.out.out.tab
          have H49 : Hid (Calls Try.prog 49 #[.int .i64 (g : Int), .slice A (tabTo s s.t.length).length cA, .int .i64 0] _ (StdPostB g (tabS s) 0 _)) := Lib.hid (std49_goodB _ _ g (tabS s) 0 HT.out HTS.out.1 (by have := HTS.out.1.n1; omega))
          go_wp2_with (first
            | (go_at_call 49; (refine H49.out.mono ?_); rintro E w5 ⟨⟨u5, rfl, ht5⟩, hb5⟩
               have HT5 := Lib.hid (ht5.mono HBK.out.size)
               have HB5 := Lib.hid (HBK.out.trans (hb5.mono HBK.out.size))
               clear ht5 hb5))
          go_ret
          exact ⟨_, rfl, HT5.out, HB5.out⟩
end Go.Proofs
namespace Go.Proofs
open Go.RowKit Go.Shelf Go.Proofs.Ct Go.Maps
/-- the cells of the three results: the table at q, the numbers at q + 1, the error at q + 1 + 1 -/
structure ResC (q : Nat) (w : World) (v : Value) (a b c e : Int) : Prop where
  c0 : w.cell? ⟨q, 0, none⟩ = some v
  c1 : w.cell? ⟨q + 1, 0, none⟩ = some (.int .i64 a)
  c2 : w.cell? ⟨q + 1, 1, none⟩ = some (.int .i64 b)
  c3 : w.cell? ⟨q + 1, 2, none⟩ = some (.int .i64 c)
  c4 : w.cell? ⟨q + 1 + 1, 0, none⟩ = some (.int .i64 e)
  f0 : w.frozen? ⟨q, 0, none⟩ = false
  f1 : w.frozen? ⟨q + 1, 0, none⟩ = false
  f2 : w.frozen? ⟨q + 1, 1, none⟩ = false
  f3 : w.frozen? ⟨q + 1, 2, none⟩ = false
  f4 : w.frozen? ⟨q + 1 + 1, 0, none⟩ = false
theorem ResC.lt {q : Nat} {w : World} {v : Value} {a b c e : Int} (h : ResC q w v a b c e) : q + 1 + 1 < w.heap.size := World.block_lt_of_cell? w _ h.c4
theorem ResC.below {q : Nat} {w w' : World} {v : Value} {a b c e : Int} (h : ResC q w v a b c e) {B : Nat} (hq : q + 1 + 1 < B) (hb : Below B w w') : ResC q w' v a b c e :=
  ⟨(hb.cell (p := ⟨q, 0, none⟩) (by show q < B; omega)).trans h.c0, (hb.cell (p := ⟨q + 1, 0, none⟩) (by show q + 1 < B; omega)).trans h.c1, (hb.cell (p := ⟨q + 1, 1, none⟩) (by show q + 1 < B; omega)).trans h.c2, (hb.cell (p := ⟨q + 1, 2, none⟩) (by show q + 1 < B; omega)).trans h.c3, (hb.cell (p := ⟨q + 1 + 1, 0, none⟩) hq).trans h.c4,
   (hb.frozen (p := ⟨q, 0, none⟩) (by show q < B; omega)).trans h.f0, (hb.frozen (p := ⟨q + 1, 0, none⟩) (by show q + 1 < B; omega)).trans h.f1, (hb.frozen (p := ⟨q + 1, 1, none⟩) (by show q + 1 < B; omega)).trans h.f2, (hb.frozen (p := ⟨q + 1, 2, none⟩) (by show q + 1 < B; omega)).trans h.f3, (hb.frozen (p := ⟨q + 1 + 1, 0, none⟩) hq).trans h.f4⟩
/-- all five cells written -/
def setR (q : Nat) (w : World) (v : Value) (a b c e : Int) : World := ((((w.setCell ⟨q, 0, none⟩ v).setCell ⟨q + 1, 0, none⟩ (.int .i64 a)).setCell ⟨q + 1, 1, none⟩ (.int .i64 b)).setCell ⟨q + 1, 2, none⟩ (.int .i64 c)).setCell ⟨q + 1 + 1, 0, none⟩ (.int .i64 e)
theorem cell_set {w : World} {a p : Addr} {u : Value} (h : w.cell? p = some u) (v : Value) : (w.setCell a v).cell? p = some (if a = p then v else u) := by
  split
  · rename_i e; subst e; exact World.cell?_setCell_same _ _ _ h
  · rename_i e; rw [World.cell?_setCell_other _ _ _ _ e]; exact h
theorem ResC.set {q : Nat} {w : World} {v : Value} {a b c e : Int} (h : ResC q w v a b c e) (v' : Value) (a' b' c' e' : Int) : ResC q (setR q w v' a' b' c' e') v' a' b' c' e' := by
  obtain ⟨c0, c1, c2, c3, c4, f0, f1, f2, f3, f4⟩ := h
  unfold setR
  refine ⟨(cell_set (cell_set (cell_set (cell_set (cell_set c0 _) _) _) _) _).trans ?_, (cell_set (cell_set (cell_set (cell_set (cell_set c1 _) _) _) _) _).trans ?_, (cell_set (cell_set (cell_set (cell_set (cell_set c2 _) _) _) _) _).trans ?_, (cell_set (cell_set (cell_set (cell_set (cell_set c3 _) _) _) _) _).trans ?_, (cell_set (cell_set (cell_set (cell_set (cell_set c4 _) _) _) _) _).trans ?_, ?_, ?_, ?_, ?_, ?_⟩ <;> simp [f0, f1, f2, f3, f4]
end Go.Proofs
namespace Go.Proofs
open Go.RowKit Go.Shelf Go.Proofs.Ct Go.Maps
/-- are the words and the limit refused? -/
def badArgs (g : Nat) (sub : List W) (limit : Int) : Bool := decide (100 < sub.length) || decide (4000 < sumTo sub sub.length) || (sub.any fun w => w.any (letBad g)) || decide (limit < 1) || decide (20000 < limit)
def enumE (g : Int) (rels sub : List W) (limit : Int) : Tb × (Int × Int) × Int :=
  if presE g rels ≠ 0 then ([], (0, 0), presE g rels) else
  if badArgs g.toNat sub limit = true then ([], (0, 0), 2) else
  match runS (2 * g.toNat) limit.toNat rels sub with
  | none => ([], (0, 0), 12)
  | some s => ((stdE g (tabS s) 0).1, ((s.t.length : Int), s.most), 0)
def EnumPost (g : Int) (rels sub : List W) (limit : Int) (w : World) (e : Ending) (w' : World) : Prop :=
  (∃ u, e = .returned (.tuple #[u, .agg #[.int .i64 (enumE g rels sub limit).2.1.1, .int .i64 (enumE g rels sub limit).2.1.2, .int .i64 0], .int .i64 (enumE g rels sub limit).2.2]) ∧ Tab w' u (enumE g rels sub limit).1) ∧ Below w.heap.size w w'
theorem enumE_full {g lim : Nat} {rels sub : List W} (h : presE g rels = 0) (h2 : badArgs g sub lim = false) (h3 : runS (2 * g) lim rels sub = none) : enumE g rels sub lim = ([], (0, 0), 12) := by
  unfold enumE; rw [if_neg (by rw [h]; simp), Int.toNat_natCast, if_neg (by rw [h2]; simp), Int.toNat_natCast, h3]
theorem enumE_some {g lim : Nat} {rels sub : List W} {s : St} (h : presE g rels = 0) (h2 : badArgs g sub lim = false) (h3 : runS (2 * g) lim rels sub = some s) : enumE g rels sub lim = ((stdE g (tabS s) 0).1, ((s.t.length : Int), s.most), 0) := by
  unfold enumE; rw [if_neg (by rw [h]; simp), Int.toNat_natCast, if_neg (by rw [h2]; simp), Int.toNat_natCast, h3]
theorem EnumPost.err {g : Int} {rels sub : List W} {limit : Int} {w w' : World} {x : Int} (h : enumE g rels sub limit = ([], (0, 0), x)) (hb : Below w.heap.size w w') : EnumPost g rels sub limit w (.returned (.tuple #[.slice none 0 0, .agg #[.int .i64 0, .int .i64 0, .int .i64 0], .int .i64 x])) w' := by
  unfold EnumPost
  rw [h]
  exact ⟨⟨_, rfl, tab_nil⟩, hb⟩
end Go.Proofs
