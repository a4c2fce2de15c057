/- (*coset.state).alive, join, merge; (*coset.state).merge; (*coset.state).merge, the walk; The reference's state of an enumeration in memory; (*State).Rep; The reference's merge; (*coset.state).coincide: what it meets. -/
import Derived.Test.YtmpnengjboabcaaGreatRgCS14
import Derived.Deep.CutBlock
import Derived.Deep.LoopGhost
namespace Go.Proofs
open Go.RowKit Go.Shelf Go.Proofs.Ct Go.Maps
theorem box_set {w : World} {b : Nat} {C : Array Value} {T : TypeId} (hb : w.heap[b]? = some (.cells C T (0, 0))) (k : Nat) (v : Value) : (w.setCell ⟨b, k, none⟩ v).heap[b]? = some (.cells (C.setIfInBounds k v) T (0, 0)) := by
  simp [World.setCell, Array.getElem?_modify, hb]
section
variable {b wd lim : Nat} {w : World} {s s' : St} {vr vp vq : Value}
theorem BoxP.upd2 (h : BoxP b wd lim w s vr vp vq) (v : Value) (hl : s'.live = s.live) (hm : s'.most = s.most) : BoxP b wd lim (w.setCell ⟨b, 2, none⟩ v) s' v vp vq := ⟨by rw [box_set h.box]; simp [hl, hm]⟩
theorem BoxP.upd3 (h : BoxP b wd lim w s vr vp vq) (v : Value) (hl : s'.live = s.live) (hm : s'.most = s.most) : BoxP b wd lim (w.setCell ⟨b, 3, none⟩ v) s' vr v vq := ⟨by rw [box_set h.box]; simp [hl, hm]⟩
theorem BoxP.upd4 (h : BoxP b wd lim w s vr vp vq) (v : Value) (hl : s'.live = s.live) (hm : s'.most = s.most) : BoxP b wd lim (w.setCell ⟨b, 4, none⟩ v) s' vr vp v := ⟨by rw [box_set h.box]; simp [hl, hm]⟩
theorem BoxP.upd5 (h : BoxP b wd lim w s vr vp vq) {z : Int} (hl : s'.live = z) (hm : s'.most = s.most) : BoxP b wd lim (w.setCell ⟨b, 5, none⟩ (.int .i64 z)) s' vr vp vq := ⟨by rw [box_set h.box]; simp [hl, hm]⟩
theorem BoxP.upd6 (h : BoxP b wd lim w s vr vp vq) {z : Int} (hl : s'.live = s.live) (hm : s'.most = z) : BoxP b wd lim (w.setCell ⟨b, 6, none⟩ (.int .i64 z)) s' vr vp vq := ⟨by rw [box_set h.box]; simp [hl, hm]⟩
theorem BoxP.frozen (h : BoxP b wd lim w s vr vp vq) (k : Nat) : w.frozen? ⟨b, k, none⟩ = false := by simp [World.frozen?, h.box]
theorem BoxP.lt (h : BoxP b wd lim w s vr vp vq) : b < w.heap.size := (Array.getElem?_eq_some_iff.1 h.box).1
theorem BoxP.of (h : BoxP b wd lim w s vr vp vq) (hl : s'.live = s.live) (hm : s'.most = s.most) : BoxP b wd lim w s' vr vp vq := ⟨by rw [hl, hm]; exact h.box⟩
end
theorem alive127_any (_g base b wd lim r : Nat) (w : World) (s : St) (hS : StP base b wd lim w s) (hr : r < s.t.length) :
    Calls Tryz.prog 64 #[.pointer (some ⟨b, 0, none⟩), .int .i64 (r : Int)] w fun e w' => e = .returned (.bool (decide (s.rp r = r))) ∧ w' = w := by
  obtain ⟨hb, P, vr, vp, vq, bl, cs, hB, hC⟩ := hS
  obtain ⟨gp, cp, rfl, -, -, hcc, -⟩ := ownI_cell hC.par (by rw [hC.len]; omega)
  have hck := hcc r (by rw [hC.len]; exact hr)
  obtain ⟨y, hy, -, -, hyi⟩ := (hC.root.root r hr).parent
  rw [hy] at hck
  obtain ⟨-, -, -, c3, -, -, -⟩ := hB.cells
  rw [hC.len] at c3
  have hr0 : (0 : Int) ≤ (r : Int) := Int.natCast_nonneg _
  have hrI : (r : Int) < (s.t.length : Int) := by omega
  have HYI := Lib.hid hyi
  clear hB hC hcc hy hyi
  by_cases h : y = r
  · have HD : Hid (decide (s.rp r = r) = true) := Lib.hid (decide_eq_true (HYI.out.1 h))
    have d1 : ((y : Int) == (r : Int)) = true := by rw [h]; simp
    clear h
    generalize decide (s.rp r = r) = x at *
    go_enter Tryz.func64, Tryz.ntmps64
    go_wp2_with fail
    go_ret
    exact ⟨ret_bool HD.out.symm, (by first | trivial | rfl)⟩
  · have HD : Hid (decide (s.rp r = r) = false) := Lib.hid (decide_eq_false fun h' => h (HYI.out.2 h'))
    have d1 : ((y : Int) == (r : Int)) = false := by rw [beq_eq_false_iff_ne]; omega
    clear h
    generalize decide (s.rp r = r) = x at *
    go_enter Tryz.func64, Tryz.ntmps64
    go_wp2_with fail
    go_ret
    exact ⟨ret_bool HD.out.symm, (by first | trivial | rfl)⟩
set_option maxRecDepth 100000 in
set_option maxHeartbeats 1000000 in
theorem join149_any (g base b wd lim u c v : Nat) (w : World) (s : St) (hI : Inv g s) (hg : g ≤ 16) (hS : StP base b wd lim w s) (_hbw : base ≤ w.heap.size) (hu : u < s.t.length) (hv : v < s.t.length) (hc : c < 2 * g) (_hn : s.t.length ≤ 1000000) :
    Calls Tryz.prog 89 #[.pointer (some ⟨b, 0, none⟩), .int .i64 (u : Int), .int .i64 (c : Int), .int .i64 (v : Int)] w fun e w' => e = .returned (.tuple #[]) ∧ StP base b wd lim w' (joinS s u c v) ∧ Below base w w' := by
  obtain ⟨hb, P, vr, vp, vq, bl, cs, hB, hC⟩ := hS
  have hlu := hI.len u hu
  have hlv := hI.len v hv
  have hf := flp_lt2 hc
  obtain ⟨gr, cr, rfl, r1, r2, r3⟩ := hC.at_ hu (c := c) (by omega)
  have hC1 := hC.set hu (c := c) (by omega) (v : Int)
  obtain ⟨-, Cu, hCu⟩ : True ∧ ∃ C, w.heap[bl u]? = some (.cells C 3 (0, 0)) := by obtain ⟨-, ⟨C, h, -⟩, -⟩ := hC.row u hu; exact ⟨trivial, C, h⟩
  have hB1 := hB.other ⟨Cu, hCu⟩ (by decide) c (.int .i64 (v : Int))
  have hbu := (hC.row u hu).1
  obtain ⟨gr', cr', e', q1, q2, q3⟩ := hC1.at_ (r := v) (c := flp c) (by simpa [length_set2] using hv) (by simp only [rowlen_set2]; omega)
  have e1 : gr = gr' := by have := congrArg Value.ownBlock e'; simpa [Value.ownBlock] using this
  subst e1
  have hlen1 : ({ s with t := set2 s.t u c (v : Int) } : St).t.length = s.t.length := length_set2 _ _ _ _
  have hC2 := hC1.set (r := v) (c := flp c) (by rw [hlen1]; exact hv) (by simp only [rowlen_set2]; omega) (u : Int)
  obtain ⟨-, Cv, hCv⟩ : True ∧ ∃ C, (w.setCell ⟨bl u, c, none⟩ (.int .i64 (v : Int))).heap[bl v]? = some (.cells C 3 (0, 0)) := by obtain ⟨-, ⟨C, h, -⟩, -⟩ := hC1.row v (by rw [hlen1]; exact hv); exact ⟨trivial, C, h⟩
  have hB2 := hB1.other ⟨Cv, hCv⟩ (by decide) (flp c) (.int .i64 (u : Int))
  have hbv := (hC.row v hv).1
  obtain ⟨-, -, b2, -, -, -, -⟩ := hB.cells
  obtain ⟨-, -, b3, -, -, -, -⟩ := hB1.cells
  have HST : Hid (StP base b wd lim ((w.setCell ⟨bl u, c, none⟩ (.int .i64 (v : Int))).setCell ⟨bl v, flp c, none⟩ (.int .i64 (u : Int))) (joinS s u c v)) := Lib.hid ⟨hb, P, _, vp, vq, bl, cs, hB2.of rfl rfl, hC2⟩
  have HBE : Hid (Below base w ((w.setCell ⟨bl u, c, none⟩ (.int .i64 (v : Int))).setCell ⟨bl v, flp c, none⟩ (.int .i64 (u : Int)))) := Lib.hid (((Below.refl base w).setCell hbu _).setCell hbv _)
  have hfe := flp_eq c (by omega)
  have hc0 : (0 : Int) ≤ (c : Int) := Int.natCast_nonneg _
  have hc1 : (c : Int) < ((s.t.row u).length : Int) := by omega
  have hf0 : (0 : Int) ≤ ((flp c : Nat) : Int) := Int.natCast_nonneg _
  have hf1 : ((flp c : Nat) : Int) < ((s.t.row v).length : Int) := by omega
  have hu0 : (0 : Int) ≤ (u : Int) := Int.natCast_nonneg _
  have hv0 : (0 : Int) ≤ (v : Int) := Int.natCast_nonneg _
  have hu1 : (u : Int) < (s.t.length : Int) := by omega
  have hv1 : (v : Int) < (s.t.length : Int) := by omega
  simp only [rowlen_set2] at q1
  clear hC hC1 hC2 hB hB1 hB2 hCu hCv hlen1 e' hI hlu hlv
  generalize (s.t.row u).length = lu at *
  generalize (s.t.row v).length = lv at *
  generalize s.t.at u c = x1 at *
  generalize ({ s with t := set2 s.t u c (v : Int) } : St).t.at v (flp c) = x2 at *
  go_enter Tryz.func89, Tryz.ntmps89
  go_wp2_with fail
  go_end0
  exact ⟨rfl, HST.out, HBE.out⟩
end Go.Proofs
namespace Go.Proofs
open Go.RowKit Go.Shelf Go.Proofs.Ct Go.Maps
theorem BoxP.grown {b wd lim : Nat} {w w' : World} {s : St} {vr vp vq : Value} (h : BoxP b wd lim w s vr vp vq) {o : Option Nat} (hg : w.grownBy w' o) (hn : o ≠ some b) : BoxP b wd lim w' s vr vp vq := ⟨(hg.block b h.lt (Ne.symm hn)).trans h.box⟩
theorem CoreM.ne_box {base b wd lim : Nat} {w : World} {s s' : St} {P : List Int} {vr vp vq v1 v2 v3 : Value} {bl cs : Nat → Nat} (h : CoreM base w s P vr vp vq bl cs) (hB : BoxP b wd lim w s' v1 v2 v3) : vp.ownBlock ≠ some b ∧ vq.ownBlock ≠ some b ∧ vr.ownBlock ≠ some b ∧ ∀ i, i < s.t.length → bl i ≠ b := by
  refine ⟨fun e => ?_, fun e => ?_, fun e => ?_, fun i hi e => ?_⟩
  · obtain ⟨-, C, hC⟩ := owns_block h.par b e
    rw [hB.box] at hC
    cases hC
  · obtain ⟨-, C, hC⟩ := owns_block h.que b e
    rw [hB.box] at hC
    cases hC
  · obtain ⟨-, C, hC⟩ := owns_block h.out b e
    rw [hB.box] at hC
    cases hC
  · obtain ⟨-, ⟨C, hC, -⟩, -⟩ := h.row i hi
    rw [e, hB.box] at hC
    cases hC
theorem merge_mem {g base b wd lim x y : Nat} {w : World} {s : St} {P : List Int} {vr vp vq : Value} {bl cs : Nat → Nat} (hI : Inv g s) (hb : base ≤ b) (hbw : base ≤ w.heap.size) (hB : BoxP b wd lim w s vr vp vq) (hC : CoreM base w s P vr vp vq bl cs) (hx : x < s.t.length) (hy : y < s.t.length) (hne : s.rp x ≠ s.rp y) (hq : s.q.length ≤ 1000000)
    (hi lo : Nat) (hhi : hi = max (s.rp x) (s.rp y)) (hlo : lo = min (s.rp x) (s.rp y)) :
    ∃ gp cp, vp = .slice (some ⟨gp, 0, none⟩) s.t.length cp ∧ w.cell? ⟨gp, hi, none⟩ = some (.int .i64 (P.getD hi 0)) ∧ w.frozen? ⟨gp, hi, none⟩ = false ∧ hi < s.t.length ∧
      (w.setCell ⟨gp, hi, none⟩ (.int .i64 (lo : Int))).cell? ⟨b, 4, none⟩ = some vq ∧ ∃ A c w4, (Builtin.append_ #[22, 22] 22 #[vq, .slice (some ⟨w.heap.size, 0, none⟩) 1 1]).run Tryz.prog ((w.setCell ⟨gp, hi, none⟩ (.int .i64 (lo : Int))).alloc (.cells #[.int .i64 (hi : Int)] 3)) = .ok (.slice A (s.q.length + 1) c) w4 ∧
        w4.cell? ⟨b, 4, none⟩ = some vq ∧ w4.frozen? ⟨b, 4, none⟩ = false ∧ (w4.setCell ⟨b, 4, none⟩ (.slice A (s.q.length + 1) c)).cell? ⟨b, 5, none⟩ = some (.int .i64 s.live) ∧ (w4.setCell ⟨b, 4, none⟩ (.slice A (s.q.length + 1) c)).frozen? ⟨b, 5, none⟩ = false ∧
        StP base b wd lim ((w4.setCell ⟨b, 4, none⟩ (.slice A (s.q.length + 1) c)).setCell ⟨b, 5, none⟩ (.int .i64 (s.live - 1))) (mergeS s x y) ∧ Below base w ((w4.setCell ⟨b, 4, none⟩ (.slice A (s.q.length + 1) c)).setCell ⟨b, 5, none⟩ (.int .i64 (s.live - 1))) := by
  have hR := hC.root.merge hI hx hy hne
  rw [← hhi, ← hlo] at hR
  have hmx : hi < s.t.length := by have := hI.rlt hx; have := hI.rlt hy; omega
  obtain ⟨gp, cp, rfl, hg1, -, hcc, hfz⟩ := ownI_cell hC.par (by rw [hC.len]; omega)
  rw [hC.len] at hcc
  obtain ⟨-, Cp, hCp⟩ := owns_block hC.par gp rfl
  have hC3 := hC.setP (g := gp) rfl (by rw [hC.len]; exact hmx) (lo : Int) (s' := { mergeS s x y with q := s.q }) (t_merge s x y) rfl (hR.of_rep rfl rfl)
  have hB3 := hB.other (g := gp) ⟨Cp, hCp⟩ (by decide) hi (.int .i64 (lo : Int))
  obtain ⟨-, -, -, -, d4, -, -⟩ := hB3.cells
  obtain ⟨A, c, w4, hrun, hC4, hgr⟩ := hC3.pushQ (by rw [World.size_setCell]; exact hbw) hi hq
  rw [World.size_setCell] at hrun
  obtain ⟨-, hnq, -, -⟩ := hC3.ne_box hB3
  have hB4 := hB3.grown hgr hnq
  obtain ⟨-, -, -, -, e4, -, -⟩ := hB4.cells
  have hB5 := hB4.upd4 (.slice A (s.q.length + 1) c) rfl rfl
  obtain ⟨-, -, -, -, -, f5, -⟩ := hB5.cells
  have hml : (mergeS s x y).live = s.live - 1 := by unfold mergeS; rw [if_neg hne]
  have hB6 := hB5.upd5 (s' := mergeS s x y) (z := s.live - 1) hml (most_merge s x y)
  have hC6 := (hC4.other hB4.box (by decide) (by decide) 4 (.slice A (s.q.length + 1) c)).other hB5.box (by decide) (by decide) 5 (.int .i64 (s.live - 1))
  have hse : ({ ({ mergeS s x y with q := s.q } : St) with q := s.q ++ [hi] } : St) = mergeS s x y := by
    unfold mergeS
    rw [if_neg hne, ← hhi]
  have hpl : P.length = s.t.length := hC.len
  refine ⟨gp, cp, by rw [hpl], hcc hi hmx, hfz hi, hmx, d4, A, c, w4, hrun, e4, hB4.frozen 4, f5, hB5.frozen 5, ⟨hb, P.set hi (lo : Int), _, _, _, bl, cs, hB6, ?_⟩, ?_⟩
  · have := hC6
    simp only at this
    rw [hse] at this
    exact this
  · have h1 : Below base w (w.setCell ⟨gp, hi, none⟩ (.int .i64 (lo : Int))) := (Below.refl base w).setCell hg1 _
    have h2 := h1.grown hgr (by rw [World.size_setCell]; exact hbw) (fun r hr => (owns_block hC.que r hr).1)
    exact (h2.setCell hb _).setCell hb _
end Go.Proofs
namespace Go.Proofs
open Go.RowKit Go.Shelf Go.Proofs.Ct Go.Maps
set_option maxRecDepth 100000 in
set_option maxHeartbeats 1000000 in
theorem merge155_any (g base b wd lim x y : Nat) (w : World) (s : St) (hI : Inv g s) (hS : StP base b wd lim w s) (hbw : base ≤ w.heap.size) (hx : x < s.t.length) (hy : y < s.t.length) (hn : s.t.length ≤ 1000000) (hq : s.q.length ≤ 1000000) (hl0 : -1000000 ≤ s.live) (hl1 : s.live ≤ 1000000) :
    Calls Tryz.prog 106 #[.pointer (some ⟨b, 0, none⟩), .int .i64 (x : Int), .int .i64 (y : Int)] w fun e w' => e = .returned (.tuple #[]) ∧ StP base b wd lim w' (mergeS s x y) ∧ Below base w w' := by
  have HX := Lib.hid fun W (h : StP base b wd lim W s) => find156_any g base b wd lim x W s hI h hx hn
  have HY := Lib.hid fun W (h : StP base b wd lim W s) => find156_any g base b wd lim y W s hI h hy hn
  have HS := Lib.hid hS
  have HI := Lib.hid hI
  have hrx := hI.rlt hx
  have hry := hI.rlt hy
  have HBW := Lib.hid hbw
  clear hS hI hbw
  by_cases hne : s.rp x = s.rp y
  · have HM : Hid (mergeS s x y = s) := Lib.hid (by unfold mergeS; rw [if_pos hne])
    generalize mergeS s x y = s' at *
    generalize s.rp x = a at *
    generalize s.rp y = c at *
    subst hne
    go_enter Tryz.func106, Tryz.ntmps106
    go_wp2_with (first
      | (go_at_call 107; (with_reducible refine (HX.out _ HS.out).mono ?_); rintro e w1 ⟨rfl, hs1, hb1⟩
         have HS1 := Lib.hid hs1
         have HB1 := Lib.hid hb1
         clear hs1 hb1 HX)
      | (go_at_call 107; (with_reducible refine (HY.out _ HS1.out).mono ?_); rintro e w2 ⟨rfl, hs2, hb2⟩
         have HS2 := Lib.hid hs2
         have HB2 := Lib.hid hb2
         clear hs2 hb2))
    try simp only [Exit.inBlock, Exit.then]
    refine bodyPost_ret (results_none rfl _ _ _) rfl ?_
    exact ⟨rfl, by rw [HM.out]; exact HS2.out, HB1.out.trans HB2.out⟩
  · have HM : Hid (∀ W, StP base b wd lim W s → base ≤ W.heap.size → ∃ P vr vp vq bl cs, BoxP b wd lim W s vr vp vq ∧ CoreM base W s P vr vp vq bl cs) := Lib.hid fun W h _ => by
      obtain ⟨-, P, vr, vp, vq, bl, cs, h1, h2⟩ := h
      exact ⟨P, vr, vp, vq, bl, cs, h1, h2⟩
    obtain ⟨hi, hhi⟩ : ∃ hi, hi = max (s.rp x) (s.rp y) := ⟨_, rfl⟩
    obtain ⟨lo, hlo⟩ : ∃ lo, lo = min (s.rp x) (s.rp y) := ⟨_, rfl⟩
    have HG := Lib.hid fun (W : World) (P : List Int) (vr vp vq : Value) (bl cs : Nat → Nat) (hb : base ≤ b) (hbw : base ≤ W.heap.size) (hB : BoxP b wd lim W s vr vp vq) (hC : CoreM base W s P vr vp vq bl cs) =>
      merge_mem HI.out hb hbw hB hC hx hy hne hq hi lo hhi hlo
    generalize mergeS s x y = s' at *
    generalize s.rp x = u at *
    generalize s.rp y = v at *
    have hu0 : (0 : Int) ≤ (u : Int) := Int.natCast_nonneg _
    have hv0 : (0 : Int) ≤ (v : Int) := Int.natCast_nonneg _
    have hdne : ((u : Int) == (v : Int)) = false := by rw [beq_eq_false_iff_ne]; omega
    have hq0 : (s.q.length : Int) ≤ 1000000 := by omega
    rcases Nat.lt_or_gt_of_ne hne with hlt | hlt
    · obtain rfl : hi = v := by omega
      obtain rfl : lo = u := by omega
      have hl1 : (lo : Int) < (hi : Int) := by omega
      have hl2 : ¬ (hi : Int) < (lo : Int) := by omega
      clear hhi hlo hlt hne
      go_enter Tryz.func106, Tryz.ntmps106
      go_wp2_with (first
        | (go_at_call 107; (with_reducible refine (HX.out _ HS.out).mono ?_); rintro e w1 ⟨rfl, hs1, hb1⟩
           have HS1 := Lib.hid hs1
           have HB1 := Lib.hid hb1
           clear hs1 hb1 HX)
        | (go_at_call 107; (with_reducible refine (HY.out _ HS1.out).mono ?_); rintro e w2 ⟨rfl, hs2, hb2⟩
           have HS2 := Lib.hid hs2
           have HB2 := Lib.hid hb2
           obtain ⟨hb, P, vr, vp, vq, bl, cs, h1, h2⟩ := hs2
           obtain ⟨-, -, -, c3, -, -, -⟩ := h1.cells
           obtain ⟨gp, cp, rfl, c5, c6, c7, c8, A, c, w4, hrun, c9, c10, c11, c12, hst, hbe⟩ := HG.out _ _ _ _ _ _ _ hb (Nat.le_trans HBW.out (HB1.out.trans hb2).size) h1 h2
           have HAPP := Lib.hid hrun
           have HST := Lib.hid hst
           have HBE := Lib.hid hbe
           clear h1 h2 hrun hst hbe hb2 HG)
        | ((with_reducible refine wpList_sel 37 ?_); refine wpList_val rfl (r_app (.tmp 32) (.tmp 36) 22 rfl rfl rfl HAPP.out) ?_))
      go_end0
      exact ⟨rfl, HST.out, HB1.out.trans (HB2.out.trans HBE.out)⟩
    · obtain rfl : hi = u := by omega
      obtain rfl : lo = v := by omega
      have hl1 : (lo : Int) < (hi : Int) := by omega
      have hl2 : ¬ (hi : Int) < (lo : Int) := by omega
      clear hhi hlo hlt hne
      go_enter Tryz.func106, Tryz.ntmps106
      go_wp2_with (first
        | (go_at_call 107; (with_reducible refine (HX.out _ HS.out).mono ?_); rintro e w1 ⟨rfl, hs1, hb1⟩
           have HS1 := Lib.hid hs1
           have HB1 := Lib.hid hb1
           clear hs1 hb1 HX)
        | (go_at_call 107; (with_reducible refine (HY.out _ HS1.out).mono ?_); rintro e w2 ⟨rfl, hs2, hb2⟩
           have HS2 := Lib.hid hs2
           have HB2 := Lib.hid hb2
           obtain ⟨hb, P, vr, vp, vq, bl, cs, h1, h2⟩ := hs2
           obtain ⟨-, -, -, c3, -, -, -⟩ := h1.cells
           obtain ⟨gp, cp, rfl, c5, c6, c7, c8, A, c, w4, hrun, c9, c10, c11, c12, hst, hbe⟩ := HG.out _ _ _ _ _ _ _ hb (Nat.le_trans HBW.out (HB1.out.trans hb2).size) h1 h2
           have HAPP := Lib.hid hrun
           have HST := Lib.hid hst
           have HBE := Lib.hid hbe
           clear h1 h2 hrun hst hbe hb2 HG)
        | ((with_reducible refine wpList_sel 37 ?_); refine wpList_val rfl (r_app (.tmp 32) (.tmp 36) 22 rfl rfl rfl HAPP.out) ?_))
      go_end0
      exact ⟨rfl, HST.out, HB1.out.trans (HB2.out.trans HBE.out)⟩
end Go.Proofs
namespace Go.Proofs
open Go.RowKit Go.Shelf Go.Proofs.Ct Go.Maps
def Kf (base : Nat) (w w' : World) : Prop := Below base w w' ∧ ∀ (k : Nat) (C : Array Value), w.heap[k]? = some (Obj.cells C 26 (0, 0)) → w'.heap[k]? = some (Obj.cells C 26 (0, 0))
section
variable {base : Nat} {w w1 w2 : World}
theorem Kf.refl (base : Nat) (w : World) : Kf base w w := ⟨Below.refl _ _, fun _ _ h => h⟩
theorem Kf.trans (h : Kf base w w1) (h2 : Kf base w1 w2) : Kf base w w2 := ⟨h.1.trans h2.1, fun k C hk => h2.2 k C (h.2 k C hk)⟩
theorem Kf.size (h : Kf base w w1) : w.heap.size ≤ w1.heap.size := h.1.size
theorem Kf.of (h : Below w.heap.size w w1) (hb : base ≤ w.heap.size) : Kf base w w1 := ⟨h.mono hb, fun k _ hk => (h.block k (Array.getElem?_eq_some_iff.1 hk).1).trans hk⟩
theorem Kf.setCell (h : Kf base w w1) {p : Addr} (hp : base ≤ p.block) (hT : ∃ C T, w1.heap[p.block]? = some (.cells C T (0, 0)) ∧ T ≠ 26) (v : Value) : Kf base w (w1.setCell p v) :=
  ⟨h.1.setCell hp v, fun k C hk => (Below.heap_setCell w1 p v k (fun e => by
    obtain ⟨C', T, h1, h2⟩ := hT
    have := h.2 k C hk
    rw [e, h1] at this
    cases this
    exact h2 rfl)).trans (h.2 k C hk)⟩
theorem Kf.grown (h : Kf base w w1) {row : Option Nat} (hg : w1.grownBy w2 row) (hbw : base ≤ w1.heap.size) (hr : ∀ r, row = some r → base ≤ r ∧ ∃ C T, w1.heap[r]? = some (.cells C T (0, 0)) ∧ T ≠ 26) : Kf base w w2 :=
  ⟨h.1.grown hg hbw fun r e => (hr r e).1, fun k C hk => (hg.block k (Array.getElem?_eq_some_iff.1 (h.2 k C hk)).1 (fun e => by
    obtain ⟨-, C', T, h1, h2⟩ := hr k e.symm
    have := h.2 k C hk
    rw [h1] at this
    cases this
    exact h2 rfl)).trans (h.2 k C hk)⟩
theorem Kf.drewN (h : Kf base w w1) (q : Nat) : Kf base w (w1.drewN q) := ⟨below_drewN h.1 q, h.2⟩
end
theorem owns_kf {w : World} {base e n : Nat} {v : Value} {xs : List Value} (h : w.ownsRow base e 1 v n xs) (he : e ≠ 26) : ∀ r, v.ownBlock = some r → base ≤ r ∧ ∃ C T, w.heap[r]? = some (.cells C T (0, 0)) ∧ T ≠ 26 := fun r hr => by
  obtain ⟨h1, C, hC⟩ := owns_block h r hr
  exact ⟨h1, C, e, hC, he⟩
structure BoxR (b lim : Nat) (w : World) (s : St) (vr vp vq : Value) (f : Bool) : Prop where
  box : w.heap[b]? = some (.cells #[vr, vp, vq, .int .i64 (lim : Int), .int .i64 s.live, .int .i64 s.most, .bool f] 102 (0, 0))
section
variable {b lim : Nat} {w w' : World} {s s' : St} {vr vp vq : Value} {f : Bool}
theorem BoxR.cells (h : BoxR b lim w s vr vp vq f) : w.cell? ⟨b, 0, none⟩ = some vr ∧ w.cell? ⟨b, 1, none⟩ = some vp ∧ w.cell? ⟨b, 2, none⟩ = some vq ∧ w.cell? ⟨b, 3, none⟩ = some (.int .i64 (lim : Int)) ∧ w.cell? ⟨b, 4, none⟩ = some (.int .i64 s.live) ∧ w.cell? ⟨b, 5, none⟩ = some (.int .i64 s.most) ∧ w.cell? ⟨b, 6, none⟩ = some (.bool f) := by
  have hc := h.box
  refine ⟨?_, ?_, ?_, ?_, ?_, ?_, ?_⟩ <;> (rw [cell_of_row _ _ _ _ _ _ hc]; rfl)
theorem BoxR.frozen (h : BoxR b lim w s vr vp vq f) (k : Nat) : w.frozen? ⟨b, k, none⟩ = false := by simp [World.frozen?, h.box]
theorem BoxR.lt (h : BoxR b lim w s vr vp vq f) : b < w.heap.size := (Array.getElem?_eq_some_iff.1 h.box).1
theorem BoxR.below (h : BoxR b lim w s vr vp vq f) (hb : Below w.heap.size w w') : BoxR b lim w' s vr vp vq f := ⟨(hb.block _ h.lt).trans h.box⟩
theorem BoxR.other (h : BoxR b lim w s vr vp vq f) {g : Nat} {T : TypeId} (hg : ∃ C, w.heap[g]? = some (.cells C T (0, 0))) (hT : T ≠ 102) (k : Nat) (v : Value) : BoxR b lim (w.setCell ⟨g, k, none⟩ v) s vr vp vq f :=
  ⟨(Below.heap_setCell w ⟨g, k, none⟩ v b (fun e => by
    obtain ⟨C, hC⟩ := hg
    have e' : b = g := e
    have := h.box
    rw [e', hC] at this
    cases this
    exact hT rfl)).trans h.box⟩
theorem BoxR.grown (h : BoxR b lim w s vr vp vq f) {o : Option Nat} (hg : w.grownBy w' o) (hn : o ≠ some b) : BoxR b lim w' s vr vp vq f := ⟨(hg.block b h.lt (Ne.symm hn)).trans h.box⟩
theorem boxR_set {b k : Nat} {C : Array Value} {T : TypeId} (h : w.heap[b]? = some (.cells C T (0, 0))) (v : Value) : (w.setCell ⟨b, k, none⟩ v).heap[b]? = some (.cells (C.setIfInBounds k v) T (0, 0)) := by
  simp [World.setCell, Array.getElem?_modify, h]
theorem BoxR.upd0 (h : BoxR b lim w s vr vp vq f) (v : Value) (hl : s'.live = s.live) (hm : s'.most = s.most) : BoxR b lim (w.setCell ⟨b, 0, none⟩ v) s' v vp vq f := ⟨by rw [boxR_set h.box]; simp [hl, hm]⟩
theorem BoxR.upd1 (h : BoxR b lim w s vr vp vq f) (v : Value) (hl : s'.live = s.live) (hm : s'.most = s.most) : BoxR b lim (w.setCell ⟨b, 1, none⟩ v) s' vr v vq f := ⟨by rw [boxR_set h.box]; simp [hl, hm]⟩
theorem BoxR.upd2 (h : BoxR b lim w s vr vp vq f) (v : Value) (hl : s'.live = s.live) (hm : s'.most = s.most) : BoxR b lim (w.setCell ⟨b, 2, none⟩ v) s' vr vp v f := ⟨by rw [boxR_set h.box]; simp [hl, hm]⟩
theorem BoxR.upd4 (h : BoxR b lim w s vr vp vq f) {z : Int} (hl : s'.live = z) (hm : s'.most = s.most) : BoxR b lim (w.setCell ⟨b, 4, none⟩ (.int .i64 z)) s' vr vp vq f := ⟨by rw [boxR_set h.box]; simp [hl, hm]⟩
theorem BoxR.upd5 (h : BoxR b lim w s vr vp vq f) {z : Int} (hl : s'.live = s.live) (hm : s'.most = z) : BoxR b lim (w.setCell ⟨b, 5, none⟩ (.int .i64 z)) s' vr vp vq f := ⟨by rw [boxR_set h.box]; simp [hl, hm]⟩
theorem BoxR.of (h : BoxR b lim w s vr vp vq f) (hl : s'.live = s.live) (hm : s'.most = s.most) : BoxR b lim w s' vr vp vq f := ⟨by rw [hl, hm]; exact h.box⟩
end
theorem CoreM.ne_boxR {base b lim : Nat} {w : World} {s s' : St} {P : List Int} {vr vp vq v1 v2 v3 : Value} {f : Bool} {bl cs : Nat → Nat} (h : CoreM base w s P vr vp vq bl cs) (hB : BoxR b lim w s' v1 v2 v3 f) : vp.ownBlock ≠ some b ∧ vq.ownBlock ≠ some b ∧ vr.ownBlock ≠ some b ∧ ∀ i, i < s.t.length → bl i ≠ b := by
  refine ⟨fun e => ?_, fun e => ?_, fun e => ?_, fun i hi e => ?_⟩
  · obtain ⟨-, C, hC⟩ := owns_block h.par b e
    rw [hB.box] at hC
    cases hC
  · obtain ⟨-, C, hC⟩ := owns_block h.que b e
    rw [hB.box] at hC
    cases hC
  · obtain ⟨-, C, hC⟩ := owns_block h.out b e
    rw [hB.box] at hC
    cases hC
  · obtain ⟨-, ⟨C, hC, -⟩, -⟩ := h.row i hi
    rw [e, hB.box] at hC
    cases hC
def StR (base b lim : Nat) (w : World) (s : St) : Prop := base ≤ b ∧ ∃ P vr vp vq bl cs f, BoxR b lim w s vr vp vq f ∧ CoreM base w s P vr vp vq bl cs
section
variable {g base b lim : Nat} {w w' : World} {s : St}
theorem StR.below (h : StR base b lim w s) (hb : Below w.heap.size w w') : StR base b lim w' s := by
  obtain ⟨h1, P, vr, vp, vq, bl, cs, f, h2, h3⟩ := h
  exact ⟨h1, P, vr, vp, vq, bl, cs, f, h2.below hb, h3.below hb⟩
theorem StR.at_ (hI : Inv g s) (hS : StR base b lim w s) {r c : Nat} (hr : r < s.t.length) (hc : c < 2 * g) : ∃ gr cr br k, w.cell? ⟨b, 0, none⟩ = some (.slice (some ⟨gr, 0, none⟩) s.t.length cr) ∧ w.cell? ⟨gr, r, none⟩ = some (.slice (some ⟨br, 0, none⟩) (2 * g) k) ∧ w.cell? ⟨br, c, none⟩ = some (.int .i64 (s.t.at r c)) := by
  obtain ⟨-, P, vr, vp, vq, bl, cs, f, hB, hC⟩ := hS
  obtain ⟨gr, cr, rfl, r1, r2, r3⟩ := hC.at_ hr (c := c) (by rw [hI.len r hr]; exact hc)
  rw [hI.len r hr] at r1
  exact ⟨gr, cr, bl r, cs r, hB.cells.1, r1, r2⟩
theorem StR.view (hl : ∀ r, r < s.t.length → (s.t.row r).length = 2 * g) (hS : StR base b lim w s) (h0 : 0 < s.t.length) : ∃ (gr cr : Nat) (bl cs : Nat → Nat), w.cell? ⟨b, 0, none⟩ = some (.slice (some ⟨gr, 0, none⟩) s.t.length cr) ∧ (∀ (r : Nat), r < s.t.length → w.cell? ⟨gr, r, none⟩ = some (.slice (some ⟨bl r, 0, none⟩) (2 * g) (cs r))) ∧ ∀ (r c : Nat), r < s.t.length → c < 2 * g → w.cell? ⟨bl r, c, none⟩ = some (.int .i64 (s.t.at r c)) ∧ w.frozen? ⟨bl r, c, none⟩ = false ∧
    ∀ z, StR base b lim (w.setCell ⟨bl r, c, none⟩ (.int .i64 z)) { s with t := set2 s.t r c z } ∧ Kf base w (w.setCell ⟨bl r, c, none⟩ (.int .i64 z)) := by
  obtain ⟨hb, P, vr, vp, vq, bl, cs, f, hB, hC⟩ := hS
  obtain ⟨hlo, ho⟩ := hC.out
  rcases ho with ⟨-, h⟩ | ⟨gr, cap, cur, hvr, hbo, hCr, h3, hm, hs, ht⟩
  · omega
  · refine ⟨gr, cap, bl, cs, by rw [← hvr]; exact hB.cells.1, fun r hr => ?_, fun r c hr hc => ?_⟩
    · rw [cell_of_row _ _ _ _ _ _ hCr]
      have h2 : (cur.toList.take (s.t.length * 1))[r]? = ((List.range s.t.length).map fun i => Value.slice (some ⟨bl i, 0, none⟩) (s.t.row i).length (cs i))[r]? := by rw [ht]
      rw [List.getElem?_take, if_pos (by omega)] at h2
      simpa [hr, hl r hr] using h2
    · have hc' : c < (s.t.row r).length := by rw [hl r hr]; exact hc
      obtain ⟨gr', cr', e, r1, r2, r3⟩ := hC.at_ hr hc'
      obtain ⟨h1, ⟨C, hCb, -⟩, -⟩ := hC.row r hr
      exact ⟨r2, r3, fun z => ⟨⟨hb, P, _, vp, vq, bl, cs, f, (hB.other ⟨C, hCb⟩ (by decide) c _).of rfl rfl, hC.set hr hc' z⟩, (Kf.refl base w).setCell h1 ⟨C, 3, hCb, by decide⟩ _⟩⟩
theorem StR.par (hS : StR base b lim w s) {c : Nat} (hc : c < s.t.length) : ∃ P gp cp, w.cell? ⟨b, 1, none⟩ = some (.slice (some ⟨gp, 0, none⟩) s.t.length cp) ∧ Roots P s ∧ ∀ k, k < s.t.length → w.cell? ⟨gp, k, none⟩ = some (.int .i64 (P.getD k 0)) := by
  obtain ⟨-, P, vr, vp, vq, bl, cs, f, hB, hC⟩ := hS
  obtain ⟨gp, cp, rfl, hg1, hg2, hcc, -⟩ := ownI_cell hC.par (by rw [hC.len]; omega)
  rw [hC.len] at hB hcc
  exact ⟨P, gp, cp, hB.cells.2.1, hC.root, fun k hk => hcc k hk⟩
theorem StR.que (hS : StR base b lim w s) : ∃ A c, w.cell? ⟨b, 2, none⟩ = some (.slice A s.q.length c) ∧ w.frozen? ⟨b, 2, none⟩ = false ∧ (0 < s.q.length → ∃ gq, A = some ⟨gq, 0, none⟩ ∧ ∀ k, k < s.q.length → w.cell? ⟨gq, k, none⟩ = some (.int .i64 (s.q.getD k 0 : Int))) ∧
    StR base b lim (w.setCell ⟨b, 2, none⟩ (.slice none 0 0)) { s with q := [] } ∧ Kf base w (w.setCell ⟨b, 2, none⟩ (.slice none 0 0)) := by
  obtain ⟨hb, P, vr, vp, vq, bl, cs, f, hB, hC⟩ := hS
  obtain ⟨A, c, rfl⟩ : ∃ A c, vq = .slice A s.q.length c := by
    rcases hC.que.2 with ⟨h, h0⟩ | ⟨gq, cap, cur, h, -⟩
    · rw [length_nats] at h0; exact ⟨none, 0, by rw [h0]; exact h⟩
    · rw [length_nats] at h; exact ⟨_, cap, h⟩
  have hC0 : CoreM base w { s with q := [] } P vr vp (.slice none 0 0) bl cs :=
    ⟨hC.out, hC.row, hC.inj, hC.par, World.ownsRow_nil _ _ _ _, hC.sepP, (fun i hi e => by cases e), (fun r hr e => by cases e), hC.root.of_rep rfl rfl⟩
  refine ⟨A, c, hB.cells.2.2.1, hB.frozen 2, fun h0 => ?_, ⟨hb, P, vr, vp, _, bl, cs, f, (hB.upd2 (s' := { s with q := [] }) (.slice none 0 0) rfl rfl), hC0.other hB.box (by decide) (by decide) 2 _⟩, (Kf.refl base w).setCell hb ⟨_, 102, hB.box, by decide⟩ _⟩
  obtain ⟨gq, cq, e, -, -, hcc, -⟩ := ownI_cell hC.que (by rw [length_nats]; exact h0)
  rw [length_nats] at e hcc
  injection e with e1 e2 e3
  exact ⟨gq, e1, fun k hk => by have := hcc k hk; rwa [nats_getD] at this⟩
end
set_option maxRecDepth 100000 in
set_option maxHeartbeats 1000000 in
theorem rep160_any (g base b lim c : Nat) (w : World) (s : St) (_hI : Inv g s) (hS : StR base b lim w s) (hc : c < s.t.length) (hn : s.t.length ≤ 1000000) :
    Calls Tryz.prog 111 #[.pointer (some ⟨b, 0, none⟩), .int .i64 (c : Int)] w fun e w' => e = .returned (.int .i64 (s.rp c : Int)) ∧ w = w' := by
  obtain ⟨P, gp, cp, c1, hR, hcc⟩ := hS.par hc
  have HR := Lib.hid hR
  have HCC := Lib.hid hcc
  have HRC := Lib.hid (hR.root c hc)
  have hn0 : (s.t.length : Int) ≤ 1000000 := by omega
  clear hS hR hcc
  go_enter Tryz.func111, Tryz.ntmps111
  go_wp2_with fail
  go_loopw [1] (fun i wr => ∃ r : Nat, i = .int .i64 r ∧ r < s.t.length ∧ Hid (Root P r (s.rp c)) ∧ w = wr) (fun i _ => (intOf i).toNat)
  case atStart => exact ⟨c, rfl, hc, HRC, rfl⟩
  case round =>
    obtain ⟨r, rfl, hr, HRR, rfl⟩ := hrel
    have hr0 : (0 : Int) ≤ (r : Int) := Int.natCast_nonneg _
    have hrI : (r : Int) < (s.t.length : Int) := by omega
    obtain ⟨y, hy, hyx, hyr, hyi⟩ := HRR.out.parent
    have hck := HCC.out r hr
    rw [hy] at hck
    have HYR := Lib.hid hyr
    have HYI := Lib.hid hyi
    clear hy hyr hyi
    by_cases hyx2 : y = r
    · subst hyx2
      have HE : Hid (s.rp c = y) := Lib.hid (HYI.out.1 rfl)
      have d2 : ((y : Int) != (y : Int)) = false := by simp
      go_wp2_with fail
      go_ret
      exact ⟨ret_int (by rw [HE.out]), rfl⟩
    · have d2 : ((y : Int) != (r : Int)) = true := by simp; omega
      have hyl : y < r := by omega
      go_wp2_with fail
      go_roundw
      case rel => exact ⟨y, rfl, by omega, HYR, trivial⟩
      case measure => simp [intOf]; omega
end Go.Proofs
namespace Go.Proofs
open Go.RowKit Go.Shelf Go.Proofs.Ct Go.Maps
theorem merge_memR {g base b lim x y : Nat} {w : World} {s : St} (hI : Inv g s) (hbw : base ≤ w.heap.size) (hS : StR base b lim w s) (hx : x < s.t.length) (hy : y < s.t.length) (hne : s.rp x ≠ s.rp y) (hq : s.q.length ≤ 1000000)
    (hi lo : Nat) (hhi : hi = max (s.rp x) (s.rp y)) (hlo : lo = min (s.rp x) (s.rp y)) :
    ∃ gp cp vq u, w.cell? ⟨b, 1, none⟩ = some (.slice (some ⟨gp, 0, none⟩) s.t.length cp) ∧ w.cell? ⟨gp, hi, none⟩ = some u ∧ w.frozen? ⟨gp, hi, none⟩ = false ∧ hi < s.t.length ∧
      (w.setCell ⟨gp, hi, none⟩ (.int .i64 (lo : Int))).cell? ⟨b, 4, none⟩ = some (.int .i64 s.live) ∧ (w.setCell ⟨gp, hi, none⟩ (.int .i64 (lo : Int))).frozen? ⟨b, 4, none⟩ = false ∧ ((w.setCell ⟨gp, hi, none⟩ (.int .i64 (lo : Int))).setCell ⟨b, 4, none⟩ (.int .i64 (s.live - 1))).cell? ⟨b, 2, none⟩ = some vq ∧
      ∃ A c w4, (Builtin.append_ #[22, 22] 22 #[vq, .slice (some ⟨w.heap.size, 0, none⟩) 1 1]).run Tryz.prog (((w.setCell ⟨gp, hi, none⟩ (.int .i64 (lo : Int))).setCell ⟨b, 4, none⟩ (.int .i64 (s.live - 1))).alloc (.cells #[.int .i64 (hi : Int)] 3)) = .ok (.slice A (s.q.length + 1) c) w4 ∧
        w4.cell? ⟨b, 2, none⟩ = some vq ∧ w4.frozen? ⟨b, 2, none⟩ = false ∧ StR base b lim (w4.setCell ⟨b, 2, none⟩ (.slice A (s.q.length + 1) c)) (mergeS s x y) ∧ Kf base w (w4.setCell ⟨b, 2, none⟩ (.slice A (s.q.length + 1) c)) := by
  obtain ⟨hb, P, vr, vp, vq, bl, cs, f, hB, hC⟩ := hS
  have hR := hC.root.merge hI hx hy hne
  rw [← hhi, ← hlo] at hR
  have hmx : hi < s.t.length := by have := hI.rlt hx; have := hI.rlt hy; omega
  obtain ⟨gp, cp, rfl, hg1, -, hcc, hfz⟩ := ownI_cell hC.par (by rw [hC.len]; omega)
  rw [hC.len] at hcc
  obtain ⟨-, Cp, hCp⟩ := owns_block hC.par gp rfl
  have hC3 := hC.setP (g := gp) rfl (by rw [hC.len]; exact hmx) (lo : Int) (s' := { mergeS s x y with q := s.q }) (t_merge s x y) rfl (hR.of_rep rfl rfl)
  have hB3 := hB.other (g := gp) ⟨Cp, hCp⟩ (by decide) hi (.int .i64 (lo : Int))
  obtain ⟨-, -, -, -, d4, -, -⟩ := hB3.cells
  have hml : (mergeS s x y).live = s.live - 1 := by unfold mergeS; rw [if_neg hne]
  have hB4 := hB3.upd4 (s' := mergeS s x y) (z := s.live - 1) hml (most_merge s x y)
  have hC4 := hC3.other hB3.box (by decide) (by decide) 4 (.int .i64 (s.live - 1))
  obtain ⟨-, -, d2, -, -, -, -⟩ := hB4.cells
  obtain ⟨A, c, w4, hrun, hC5, hgr⟩ := hC4.pushQ (by rw [World.size_setCell, World.size_setCell]; exact hbw) hi hq
  rw [World.size_setCell, World.size_setCell] at hrun
  obtain ⟨-, hnq, -, -⟩ := hC4.ne_boxR hB4
  have hB5 := hB4.grown hgr hnq
  obtain ⟨-, -, e2, -, -, -, -⟩ := hB5.cells
  have hB6 := hB5.upd2 (s' := mergeS s x y) (.slice A (s.q.length + 1) c) rfl rfl
  have hC6 := hC5.other hB5.box (by decide) (by decide) 2 (.slice A (s.q.length + 1) c)
  have hse : ({ ({ mergeS s x y with q := s.q } : St) with q := s.q ++ [hi] } : St) = mergeS s x y := by
    unfold mergeS
    rw [if_neg hne, ← hhi]
  have hpl : P.length = s.t.length := hC.len
  refine ⟨gp, cp, vq, _, by rw [← hpl]; exact hB.cells.2.1, hcc hi hmx, hfz hi, hmx, d4, hB3.frozen 4, d2, A, c, w4, hrun, e2, hB5.frozen 2, ⟨hb, P.set hi (lo : Int), _, _, _, bl, cs, f, hB6, ?_⟩, ?_⟩
  · have := hC6
    simp only at this
    rw [hse] at this
    exact this
  · have h1 : Kf base w (w.setCell ⟨gp, hi, none⟩ (.int .i64 (lo : Int))) := (Kf.refl base w).setCell hg1 ⟨Cp, 3, hCp, by decide⟩ _
    have h2 := (h1.setCell (p := ⟨b, 4, none⟩) hb ⟨_, 102, hB3.box, by decide⟩ (.int .i64 (s.live - 1))).grown hgr (by rw [World.size_setCell, World.size_setCell]; exact hbw) (owns_kf hC4.que (by decide))
    exact h2.setCell hb ⟨_, 102, hB5.box, by decide⟩ _
theorem merge_comm (s : St) (a b : Nat) : mergeS s a b = mergeS s b a := by
  unfold mergeS
  by_cases h : s.rp a = s.rp b
  · rw [if_pos h, if_pos h.symm]
  · rw [if_neg h, if_neg (fun h' => h h'.symm), Nat.max_comm, Nat.min_comm]
set_option maxRecDepth 100000 in
set_option maxHeartbeats 1000000 in
theorem merge159_any (g base b lim x y : Nat) (w : World) (s : St) (hI : Inv g s) (hS : StR base b lim w s) (hbw : base ≤ w.heap.size) (hx : x < s.t.length) (hy : y < s.t.length) (hn : s.t.length ≤ 1000000) (hq : s.q.length ≤ 1000000) (hl0 : -1000000 ≤ s.live) (hl1 : s.live ≤ 1000000) :
    Calls Tryz.prog 110 #[.pointer (some ⟨b, 0, none⟩), .int .i64 (x : Int), .int .i64 (y : Int)] w fun e w' => e = .returned (.tuple #[]) ∧ StR base b lim w' (mergeS s x y) ∧ Kf base w w' := by
  have HX := Lib.hid (rep160_any g base b lim x w s hI hS hx hn)
  have HY := Lib.hid (rep160_any g base b lim y w s hI hS hy hn)
  have HS := Lib.hid hS
  have HI := Lib.hid hI
  have hrx := hI.rlt hx
  have hry := hI.rlt hy
  have HBW := Lib.hid hbw
  clear hS hI hbw
  by_cases hne : s.rp x = s.rp y
  · have HM : Hid (mergeS s x y = s) := Lib.hid (by unfold mergeS; rw [if_pos hne])
    generalize mergeS s x y = s' at *
    generalize s.rp x = a at *
    generalize s.rp y = c at *
    subst hne
    go_enter Tryz.func110, Tryz.ntmps110
    go_wp2_with (first
      | (go_at_call 111; (with_reducible refine HX.out.mono ?_); rintro e w1 ⟨rfl, rfl⟩; clear HX)
      | (go_at_call 111; (with_reducible refine HY.out.mono ?_); rintro e w2 ⟨rfl, rfl⟩))
    try simp only [Exit.inBlock, Exit.then]
    refine bodyPost_ret (results_none rfl _ _ _) rfl ?_
    exact ⟨rfl, by rw [HM.out]; exact HS.out, Kf.refl _ _⟩
  · obtain ⟨hi, hhi⟩ : ∃ hi, hi = max (s.rp x) (s.rp y) := ⟨_, rfl⟩
    obtain ⟨lo, hlo⟩ : ∃ lo, lo = min (s.rp x) (s.rp y) := ⟨_, rfl⟩
    obtain ⟨gp, cp, vq, u0, c1, c2, c3, c4, c5, c6, c7, A, c, w4, hrun, c8, c9, hst, hbe⟩ := merge_memR HI.out HBW.out HS.out hx hy hne hq hi lo hhi hlo
    have HAPP := Lib.hid hrun
    have HST := Lib.hid hst
    have HBE := Lib.hid hbe
    clear hrun hst hbe
    generalize mergeS s x y = s' at *
    generalize s.rp x = u at *
    generalize s.rp y = v at *
    have hu0 : (0 : Int) ≤ (u : Int) := Int.natCast_nonneg _
    have hv0 : (0 : Int) ≤ (v : Int) := Int.natCast_nonneg _
    have hdne : ((u : Int) == (v : Int)) = false := by rw [beq_eq_false_iff_ne]; omega
    have hq0 : (s.q.length : Int) ≤ 1000000 := by omega
    have hin : (hi : Int) < (s.t.length : Int) := by omega
    rcases Nat.lt_or_gt_of_ne hne with hlt | hlt
    · obtain rfl : hi = v := by omega
      obtain rfl : lo = u := by omega
      have hl1 : (lo : Int) < (hi : Int) := by omega
      have hl2 : ¬ (hi : Int) < (lo : Int) := by omega
      clear hhi hlo hlt hne
      go_enter Tryz.func110, Tryz.ntmps110
      go_wp2_with (first
        | (go_at_call 111; (with_reducible refine HX.out.mono ?_); rintro e w1 ⟨rfl, rfl⟩; clear HX)
        | (go_at_call 111; (with_reducible refine HY.out.mono ?_); rintro e w2 ⟨rfl, rfl⟩)
        | ((with_reducible refine wpList_sel 44 ?_); refine wpList_val rfl (r_app (.tmp 41) (.tmp 43) 22 rfl rfl rfl HAPP.out) ?_))
      go_end0
      exact ⟨rfl, HST.out, HBE.out⟩
    · obtain rfl : hi = u := by omega
      obtain rfl : lo = v := by omega
      have hl1 : (lo : Int) < (hi : Int) := by omega
      have hl2 : ¬ (hi : Int) < (lo : Int) := by omega
      clear hhi hlo hlt hne
      go_enter Tryz.func110, Tryz.ntmps110
      go_wp2_with (first
        | (go_at_call 111; (with_reducible refine HX.out.mono ?_); rintro e w1 ⟨rfl, rfl⟩; clear HX)
        | (go_at_call 111; (with_reducible refine HY.out.mono ?_); rintro e w2 ⟨rfl, rfl⟩)
        | ((with_reducible refine wpList_sel 44 ?_); refine wpList_val rfl (r_app (.tmp 41) (.tmp 43) 22 rfl rfl rfl HAPP.out) ?_))
      go_end0
      exact ⟨rfl, HST.out, HBE.out⟩
end Go.Proofs
namespace Go.Proofs
open Go.RowKit Go.Shelf Go.Proofs.Ct Go.Maps
theorem StP.at_ {g base b wd lim : Nat} {w : World} {s : St} (hI : Inv g s) (hS : StP base b wd lim w s) {r c : Nat} (hr : r < s.t.length) (hc : c < 2 * g) : ∃ gr cr br k, w.cell? ⟨b, 2, none⟩ = some (.slice (some ⟨gr, 0, none⟩) s.t.length cr) ∧ w.cell? ⟨gr, r, none⟩ = some (.slice (some ⟨br, 0, none⟩) (2 * g) k) ∧ w.cell? ⟨br, c, none⟩ = some (.int .i64 (s.t.at r c)) := by
  obtain ⟨-, P, vr, vp, vq, bl, cs, hB, hC⟩ := hS
  obtain ⟨gr, cr, rfl, r1, r2, r3⟩ := hC.at_ hr (c := c) (by rw [hI.len r hr]; exact hc)
  rw [hI.len r hr] at r1
  exact ⟨gr, cr, bl r, cs r, hB.cells.2.2.1, r1, r2⟩
theorem StP.width {base b wd lim : Nat} {w : World} {s : St} (hS : StP base b wd lim w s) : w.cell? ⟨b, 0, none⟩ = some (.int .i64 (wd : Int)) ∧ w.cell? ⟨b, 1, none⟩ = some (.int .i64 (lim : Int)) := by
  obtain ⟨-, P, vr, vp, vq, bl, cs, hB, -⟩ := hS
  exact ⟨hB.cells.1, hB.cells.2.1⟩
theorem StP.que {base b wd lim : Nat} {w : World} {s : St} (hS : StP base b wd lim w s) : ∃ A c, w.cell? ⟨b, 4, none⟩ = some (.slice A s.q.length c) ∧ w.frozen? ⟨b, 4, none⟩ = false ∧ (0 < s.q.length → ∃ gq, A = some ⟨gq, 0, none⟩ ∧ ∀ k, k < s.q.length → w.cell? ⟨gq, k, none⟩ = some (.int .i64 (s.q.getD k 0 : Int))) ∧
    (base ≤ b → StP base b wd lim (w.setCell ⟨b, 4, none⟩ (.slice A 0 c)) { s with q := [] }) ∧ (A = none → s.q.length = 0 ∧ c = 0) ∧ (∀ a, A = some a → a.off = 0 ∧ a.spot = none) ∧ s.q.length ≤ c := by
  obtain ⟨hb, P, vr, vp, vq, bl, cs, hB, hC⟩ := hS
  obtain ⟨A, c, rfl⟩ : ∃ A c, vq = .slice A s.q.length c := by
    rcases hC.que.2 with ⟨h, h0⟩ | ⟨gq, cap, cur, h, -⟩
    · rw [length_nats] at h0; exact ⟨none, 0, by rw [h0]; exact h⟩
    · rw [length_nats] at h; exact ⟨_, cap, h⟩
  have hC0 : CoreM base w { s with q := [] } P vr vp (.slice A 0 c) bl cs := by
    refine ⟨hC.out, hC.row, hC.inj, hC.par, ?_, hC.sepP, fun i hi e => hC.sepQ i hi ?_, fun r hr e => hC.pq r hr ?_, hC.root.of_rep rfl rfl⟩
    · have h := hC.que
      unfold OwnI at h
      rw [length_nats] at h
      exact owns_take h (k := 0) (Nat.zero_le _)
    · cases A <;> exact e
    · cases A <;> exact e
  refine ⟨A, c, hB.cells.2.2.2.2.1, hB.frozen 4, fun h0 => ?_, fun _ => ⟨hb, P, vr, vp, _, bl, cs, (hB.upd4 (s' := { s with q := [] }) (.slice A 0 c) rfl rfl), hC0.other hB.box (by decide) (by decide) 4 _⟩, fun h => ?_, fun a h => ?_, ?_⟩
  · obtain ⟨gq, cq, e, -, -, hcc, -⟩ := ownI_cell hC.que (by rw [length_nats]; exact h0)
    rw [length_nats] at e hcc
    injection e with e1 e2 e3
    exact ⟨gq, e1, fun k hk => by have := hcc k hk; rwa [nats_getD] at this⟩
  · rcases hC.que.2 with ⟨h', h0⟩ | ⟨gq, cap, cur, h', -⟩
    · rw [length_nats] at h0
      injection h' with e1 e2 e3
      exact ⟨h0, e3⟩
    · injection h' with e1 e2 e3
      rw [h] at e1
      cases e1
  · rcases hC.que.2 with ⟨h', h0⟩ | ⟨gq, cap, cur, h', -⟩
    · injection h' with e1 e2 e3
      rw [h] at e1
      cases e1
    · injection h' with e1 e2 e3
      rw [h] at e1
      cases e1
      exact ⟨rfl, rfl⟩
  · rcases hC.que.2 with ⟨h', h0⟩ | ⟨gq, cap, cur, h', -, -, h1, -⟩
    · rw [length_nats] at h0; omega
    · injection h' with e1 e2 e3
      rw [length_nats] at h1
      omega
end Go.Proofs
namespace Go.Proofs.Ct
theorem coinTo_stop (m : Nat) (s : St) {k : Nat} (h : (coinTo m k s).q.length ≤ k) : ∀ j, k ≤ j → coinTo m j s = coinTo m k s
  | 0, hj => by obtain rfl : k = 0 := by omega
                rfl
  | j + 1, hj => by
    rcases Nat.lt_or_ge j k with h' | h'
    · obtain rfl : k = j + 1 := by omega
      rfl
    · have ih := coinTo_stop m s h j h'
      have e : coinTo m (j + 1) s = (fun k s => if k < s.q.length then procTo (s.q.getD k 0) m s else s) j (coinTo m j s) := rfl
      rw [e, ih]
      exact if_neg (by omega)
theorem coinTo_succ (m k : Nat) (s : St) (h : k < (coinTo m k s).q.length) : coinTo m (k + 1) s = procTo ((coinTo m k s).q.getD k 0) m (coinTo m k s) := by
  have e : coinTo m (k + 1) s = (fun k s => if k < s.q.length then procTo (s.q.getD k 0) m s else s) k (coinTo m k s) := rfl
  rw [e]
  exact if_pos h
end Go.Proofs.Ct
