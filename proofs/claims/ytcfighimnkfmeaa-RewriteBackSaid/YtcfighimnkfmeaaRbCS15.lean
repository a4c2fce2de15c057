/- The reference's merge; (*coset.state).coincide: what it meets; The reference's Coincide; (*coset.state).coincide; slices.Repeat of one number; A state in memory while a coset is added: rows, parents and queue each by itself; Operations that make or grow a list, one at a time; what stands while a row joins; (*coset.state).add. -/
import Derived.Test.YtcfighimnkfmeaaRbCS14
import Derived.Shelf.Bits.Mul64
import Derived.Laws.CopyOwn
namespace Go.Proofs
open Go.RowKit Go.Shelf Go.Proofs.Ct Go.Maps
/-- what merging two classes writes -/
theorem merge_memR {g base b lim x y : Nat} {w : World} {s : St} (hI : Inv g s) (hbw : base ≤ w.heap.size) (hS : StR base b lim w s) (hx : x < s.t.length) (hy : y < s.t.length) (hne : s.rp x ≠ s.rp y) (hq : s.q.length ≤ 1000000)
    (hi lo : Nat) (hhi : hi = max (s.rp x) (s.rp y)) (hlo : lo = min (s.rp x) (s.rp y)) :
    ∃ gp cp vq u, w.cell? ⟨b, 1, none⟩ = some (.slice (some ⟨gp, 0, none⟩) s.t.length cp) ∧ w.cell? ⟨gp, hi, none⟩ = some u ∧ w.frozen? ⟨gp, hi, none⟩ = false ∧ hi < s.t.length ∧
      (w.setCell ⟨gp, hi, none⟩ (.int .i64 (lo : Int))).cell? ⟨b, 4, none⟩ = some (.int .i64 s.live) ∧ (w.setCell ⟨gp, hi, none⟩ (.int .i64 (lo : Int))).frozen? ⟨b, 4, none⟩ = false ∧ ((w.setCell ⟨gp, hi, none⟩ (.int .i64 (lo : Int))).setCell ⟨b, 4, none⟩ (.int .i64 (s.live - 1))).cell? ⟨b, 2, none⟩ = some vq ∧
      ∃ A c w4, (Builtin.append_ #[24, 24] 24 #[vq, .slice (some ⟨w.heap.size, 0, none⟩) 1 1]).run Try.prog (((w.setCell ⟨gp, hi, none⟩ (.int .i64 (lo : Int))).setCell ⟨b, 4, none⟩ (.int .i64 (s.live - 1))).alloc (.cells #[.int .i64 (hi : Int)] 3)) = .ok (.slice A (s.q.length + 1) c) w4 ∧
        w4.cell? ⟨b, 2, none⟩ = some vq ∧ w4.frozen? ⟨b, 2, none⟩ = false ∧ StR base b lim (w4.setCell ⟨b, 2, none⟩ (.slice A (s.q.length + 1) c)) (mergeS s x y) ∧ Kf base w (w4.setCell ⟨b, 2, none⟩ (.slice A (s.q.length + 1) c)) := by
  obtain ⟨hb, P, vr, vp, vq, bl, cs, f, hB, hC⟩ := hS
  have hR := hC.root.merge hI hx hy hne
  rw [← hhi, ← hlo] at hR
  have hmx : hi < s.t.length := by have := hI.rlt hx; have := hI.rlt hy; omega
  obtain ⟨gp, cp, rfl, hg1, -, hcc, hfz⟩ := ownI_cell hC.par (by rw [hC.len]; omega)
  rw [hC.len] at hcc
  obtain ⟨-, Cp, hCp⟩ := owns_block hC.par gp rfl
  have hC3 := hC.setP (g := gp) rfl (by rw [hC.len]; exact hmx) (lo : Int) (s' := { mergeS s x y with q := s.q }) (t_merge s x y) rfl (hR.of_rep rfl rfl)
  have hB3 := hB.other (g := gp) ⟨Cp, hCp⟩ (by decide) hi (.int .i64 (lo : Int))
  obtain ⟨-, -, -, -, d4, -, -⟩ := hB3.cells
  have hml : (mergeS s x y).live = s.live - 1 := by unfold mergeS; rw [if_neg hne]
  have hB4 := hB3.upd4 (s' := mergeS s x y) (z := s.live - 1) hml (most_merge s x y)
  have hC4 := hC3.other hB3.box (by decide) (by decide) 4 (.int .i64 (s.live - 1))
  obtain ⟨-, -, d2, -, -, -, -⟩ := hB4.cells
  obtain ⟨A, c, w4, hrun, hC5, hgr⟩ := hC4.pushQ (by rw [World.size_setCell, World.size_setCell]; exact hbw) hi hq
  rw [World.size_setCell, World.size_setCell] at hrun
  obtain ⟨-, hnq, -, -⟩ := hC4.ne_boxR hB4
  have hB5 := hB4.grown hgr hnq
  obtain ⟨-, -, e2, -, -, -, -⟩ := hB5.cells
  have hB6 := hB5.upd2 (s' := mergeS s x y) (.slice A (s.q.length + 1) c) rfl rfl
  have hC6 := hC5.other hB5.box (by decide) (by decide) 2 (.slice A (s.q.length + 1) c)
  have hse : ({ ({ mergeS s x y with q := s.q } : St) with q := s.q ++ [hi] } : St) = mergeS s x y := by
    unfold mergeS
    rw [if_neg hne, ← hhi]
  have hpl : P.length = s.t.length := hC.len
  refine ⟨gp, cp, vq, _, by rw [← hpl]; exact hB.cells.2.1, hcc hi hmx, hfz hi, hmx, d4, hB3.frozen 4, d2, A, c, w4, hrun, e2, hB5.frozen 2, ⟨hb, P.set hi (lo : Int), _, _, _, bl, cs, f, hB6, ?_⟩, ?_⟩
  · have := hC6
    simp only at this
    rw [hse] at this
    exact this
  · have h1 : Kf base w (w.setCell ⟨gp, hi, none⟩ (.int .i64 (lo : Int))) := (Kf.refl base w).setCell hg1 ⟨Cp, 3, hCp, by decide⟩ _
    have h2 := (h1.setCell (p := ⟨b, 4, none⟩) hb ⟨_, 124, hB3.box, by decide⟩ (.int .i64 (s.live - 1))).grown hgr (by rw [World.size_setCell, World.size_setCell]; exact hbw) (owns_kf hC4.que (by decide))
    exact h2.setCell hb ⟨_, 124, hB5.box, by decide⟩ _
theorem merge_comm (s : St) (a b : Nat) : mergeS s a b = mergeS s b a := by
  unfold mergeS
  by_cases h : s.rp a = s.rp b
  · rw [if_pos h, if_pos h.symm]
  · rw [if_neg h, if_neg (fun h' => h h'.symm), Nat.max_comm, Nat.min_comm]
set_option maxRecDepth 100000 in
set_option maxHeartbeats 1000000 in
theorem merge159_any (g base b lim x y : Nat) (w : World) (s : St) (hI : Inv g s) (hS : StR base b lim w s) (hbw : base ≤ w.heap.size) (hx : x < s.t.length) (hy : y < s.t.length) (hn : s.t.length ≤ 1000000) (hq : s.q.length ≤ 1000000) (hl0 : -1000000 ≤ s.live) (hl1 : s.live ≤ 1000000) :
    Calls Try.prog 159 #[.pointer (some ⟨b, 0, none⟩), .int .i64 (x : Int), .int .i64 (y : Int)] w fun e w' => e = .returned (.tuple #[]) ∧ StR base b lim w' (mergeS s x y) ∧ Kf base w w' := by
  have HX := Lib.hid (rep160_any g base b lim x w s hI hS hx hn)
  have HY := Lib.hid (rep160_any g base b lim y w s hI hS hy hn)
  have HS := Lib.hid hS
  have HI := Lib.hid hI
  have hrx := hI.rlt hx
  have hry := hI.rlt hy
  have HBW := Lib.hid hbw
  clear hS hI hbw
  by_cases hne : s.rp x = s.rp y
  · have HM : Hid (mergeS s x y = s) := Lib.hid (by unfold mergeS; rw [if_pos hne])
    generalize mergeS s x y = s' at *
    generalize s.rp x = a at *
    generalize s.rp y = c at *
    subst hne
    go_enter Try.func159, Try.ntmps159
    go_wp2_with (first
      | (go_at_call 160; (with_reducible refine HX.out.mono ?_); rintro e w1 ⟨rfl, rfl⟩; clear HX)
      | (go_at_call 160; (with_reducible refine HY.out.mono ?_); rintro e w2 ⟨rfl, rfl⟩))
    try simp only [Exit.inBlock, Exit.then]
    refine bodyPost_ret (results_none rfl _ _ _) rfl ?_
    exact ⟨rfl, by rw [HM.out]; exact HS.out, Kf.refl _ _⟩
  · obtain ⟨hi, hhi⟩ : ∃ hi, hi = max (s.rp x) (s.rp y) := ⟨_, rfl⟩
    obtain ⟨lo, hlo⟩ : ∃ lo, lo = min (s.rp x) (s.rp y) := ⟨_, rfl⟩
    obtain ⟨gp, cp, vq, u0, c1, c2, c3, c4, c5, c6, c7, A, c, w4, hrun, c8, c9, hst, hbe⟩ := merge_memR HI.out HBW.out HS.out hx hy hne hq hi lo hhi hlo
    have HAPP := Lib.hid hrun
    have HST := Lib.hid hst
    have HBE := Lib.hid hbe
    clear hrun hst hbe
    generalize mergeS s x y = s' at *
    generalize s.rp x = u at *
    generalize s.rp y = v at *
    have hu0 : (0 : Int) ≤ (u : Int) := Int.natCast_nonneg _
    have hv0 : (0 : Int) ≤ (v : Int) := Int.natCast_nonneg _
    have hdne : ((u : Int) == (v : Int)) = false := by rw [beq_eq_false_iff_ne]; omega
    have hq0 : (s.q.length : Int) ≤ 1000000 := by omega
    have hin : (hi : Int) < (s.t.length : Int) := by omega
    rcases Nat.lt_or_gt_of_ne hne with hlt | hlt
    · obtain rfl : hi = v := by omega
      obtain rfl : lo = u := by omega
      have hl1 : (lo : Int) < (hi : Int) := by omega
      have hl2 : ¬ (hi : Int) < (lo : Int) := by omega
      clear hhi hlo hlt hne
      go_enter Try.func159, Try.ntmps159
      go_wp2_with (first
        | (go_at_call 160; (with_reducible refine HX.out.mono ?_); rintro e w1 ⟨rfl, rfl⟩; clear HX)
        | (go_at_call 160; (with_reducible refine HY.out.mono ?_); rintro e w2 ⟨rfl, rfl⟩)
        | ((with_reducible refine wpList_sel 44 ?_); refine wpList_val rfl (r_app (.tmp 41) (.tmp 43) 24 rfl rfl rfl HAPP.out) ?_))
      go_end0
      exact ⟨rfl, HST.out, HBE.out⟩
    · obtain rfl : hi = u := by omega
      obtain rfl : lo = v := by omega
      have hl1 : (lo : Int) < (hi : Int) := by omega
      have hl2 : ¬ (hi : Int) < (lo : Int) := by omega
      clear hhi hlo hlt hne
      go_enter Try.func159, Try.ntmps159
      go_wp2_with (first
        | (go_at_call 160; (with_reducible refine HX.out.mono ?_); rintro e w1 ⟨rfl, rfl⟩; clear HX)
        | (go_at_call 160; (with_reducible refine HY.out.mono ?_); rintro e w2 ⟨rfl, rfl⟩)
        | ((with_reducible refine wpList_sel 44 ?_); refine wpList_val rfl (r_app (.tmp 41) (.tmp 43) 24 rfl rfl rfl HAPP.out) ?_))
      go_end0
      exact ⟨rfl, HST.out, HBE.out⟩
end Go.Proofs
namespace Go.Proofs
open Go.RowKit Go.Shelf Go.Proofs.Ct Go.Maps
/-- an element of the rows -/
theorem StP.at_ {g base b wd lim : Nat} {w : World} {s : St} (hI : Inv g s) (hS : StP base b wd lim w s) {r c : Nat} (hr : r < s.t.length) (hc : c < 2 * g) : ∃ gr cr br k, w.cell? ⟨b, 2, none⟩ = some (.slice (some ⟨gr, 0, none⟩) s.t.length cr) ∧ w.cell? ⟨gr, r, none⟩ = some (.slice (some ⟨br, 0, none⟩) (2 * g) k) ∧ w.cell? ⟨br, c, none⟩ = some (.int .i64 (s.t.at r c)) := by
  obtain ⟨-, P, vr, vp, vq, bl, cs, hB, hC⟩ := hS
  obtain ⟨gr, cr, rfl, r1, r2, r3⟩ := hC.at_ hr (c := c) (by rw [hI.len r hr]; exact hc)
  rw [hI.len r hr] at r1
  exact ⟨gr, cr, bl r, cs r, hB.cells.2.2.1, r1, r2⟩
/-- the queue -/
theorem StP.que {base b wd lim : Nat} {w : World} {s : St} (hS : StP base b wd lim w s) : ∃ A c, w.cell? ⟨b, 4, none⟩ = some (.slice A s.q.length c) ∧ w.frozen? ⟨b, 4, none⟩ = false ∧ (0 < s.q.length → ∃ gq, A = some ⟨gq, 0, none⟩ ∧ ∀ k, k < s.q.length → w.cell? ⟨gq, k, none⟩ = some (.int .i64 (s.q.getD k 0 : Int))) ∧
    (base ≤ b → StP base b wd lim (w.setCell ⟨b, 4, none⟩ (.slice A 0 c)) { s with q := [] }) ∧ (A = none → s.q.length = 0 ∧ c = 0) ∧ (∀ a, A = some a → a.off = 0 ∧ a.spot = none) ∧ s.q.length ≤ c := by
  obtain ⟨hb, P, vr, vp, vq, bl, cs, hB, hC⟩ := hS
  obtain ⟨A, c, rfl⟩ : ∃ A c, vq = .slice A s.q.length c := by
    rcases hC.que.2 with ⟨h, h0⟩ | ⟨gq, cap, cur, h, -⟩
    · rw [length_nats] at h0; exact ⟨none, 0, by rw [h0]; exact h⟩
    · rw [length_nats] at h; exact ⟨_, cap, h⟩
  have hC0 : CoreM base w { s with q := [] } P vr vp (.slice A 0 c) bl cs := by
    refine ⟨hC.out, hC.row, hC.inj, hC.par, ?_, hC.sepP, fun i hi e => hC.sepQ i hi ?_, fun r hr e => hC.pq r hr ?_, hC.root.of_rep rfl rfl⟩
    · have h := hC.que
      unfold OwnI at h
      rw [length_nats] at h
      exact owns_take h (k := 0) (Nat.zero_le _)
    · cases A <;> exact e
    · cases A <;> exact e
  refine ⟨A, c, hB.cells.2.2.2.2.1, hB.frozen 4, fun h0 => ?_, fun _ => ⟨hb, P, vr, vp, _, bl, cs, (hB.upd4 (s' := { s with q := [] }) (.slice A 0 c) rfl rfl), hC0.other hB.box (by decide) (by decide) 4 _⟩, fun h => ?_, fun a h => ?_, ?_⟩
  · obtain ⟨gq, cq, e, -, -, hcc, -⟩ := ownI_cell hC.que (by rw [length_nats]; exact h0)
    rw [length_nats] at e hcc
    injection e with e1 e2 e3
    exact ⟨gq, e1, fun k hk => by have := hcc k hk; rwa [nats_getD] at this⟩
  · rcases hC.que.2 with ⟨h', h0⟩ | ⟨gq, cap, cur, h', -⟩
    · rw [length_nats] at h0
      injection h' with e1 e2 e3
      exact ⟨h0, e3⟩
    · injection h' with e1 e2 e3
      rw [h] at e1
      cases e1
  · rcases hC.que.2 with ⟨h', h0⟩ | ⟨gq, cap, cur, h', -⟩
    · injection h' with e1 e2 e3
      rw [h] at e1
      cases e1
    · injection h' with e1 e2 e3
      rw [h] at e1
      cases e1
      exact ⟨rfl, rfl⟩
  · rcases hC.que.2 with ⟨h', h0⟩ | ⟨gq, cap, cur, h', -, -, h1, -⟩
    · rw [length_nats] at h0; omega
    · injection h' with e1 e2 e3
      rw [length_nats] at h1
      omega
end Go.Proofs
namespace Go.Proofs.Ct
theorem coinTo_stop (m : Nat) (s : St) {k : Nat} (h : (coinTo m k s).q.length ≤ k) : ∀ j, k ≤ j → coinTo m j s = coinTo m k s
  | 0, hj => by obtain rfl : k = 0 := by omega
                rfl
  | j + 1, hj => by
    rcases Nat.lt_or_ge j k with h' | h'
    · obtain rfl : k = j + 1 := by omega
      rfl
    · have ih := coinTo_stop m s h j h'
      have e : coinTo m (j + 1) s = (fun k s => if k < s.q.length then procTo (s.q.getD k 0) m s else s) j (coinTo m j s) := rfl
      rw [e, ih]
      exact if_neg (by omega)
theorem coinTo_succ (m k : Nat) (s : St) (h : k < (coinTo m k s).q.length) : coinTo m (k + 1) s = procTo ((coinTo m k s).q.getD k 0) m (coinTo m k s) := by
  have e : coinTo m (k + 1) s = (fun k s => if k < s.q.length then procTo (s.q.getD k 0) m s else s) k (coinTo m k s) := rfl
  rw [e]
  exact if_pos h
end Go.Proofs.Ct
namespace Go.Proofs
open Go.RowKit Go.Shelf Go.Proofs.Ct Go.Maps
theorem inv_len1 {g : Nat} {s : St} (h : Inv g s) (e c : Nat) (z : Int) : ∀ r, r < ({ s with t := set2 s.t e c z } : St).t.length → (({ s with t := set2 s.t e c z } : St).t.row r).length = 2 * g := fun r hr => by
  simp only [length_set2, rowlen_set2] at hr ⊢
  exact h.len r hr
set_option maxRecDepth 100000 in
set_option maxHeartbeats 4000000 in
theorem coincide154_any (g m base b lim x y : Nat) (hm : m = 2 * g) (w : World) (s : St) (hr : Ct.Rest g s) (hg : g ≤ 16) (hS : StR base b lim w s) (hbw : base ≤ w.heap.size) (hx : x < s.t.length) (hy : y < s.t.length) (hn : s.t.length ≤ 1000000) :
    Calls Try.prog 154 #[.pointer (some ⟨b, 0, none⟩), .int .i64 (x : Int), .int .i64 (y : Int)] w fun e w' => e = .returned (.tuple #[]) ∧ StR base b lim w' (coinS m s x y) ∧ Kf base w w' := by
  obtain ⟨A, c, q1, q2, -, q3, q4⟩ := hS.que
  have h0 : Inv g { s with q := [] } := ⟨hr.inv.len, hr.inv.bd, hr.inv.rl, hr.inv.rle, hr.inv.rid, hr.inv.back⟩
  have hq0 : QI g 0 0 { s with q := [] } := ⟨fun x hx hd c hc h0 => absurd h0 (by have := hr.dead x hx hd c hc; simp only at h0; omega), fun j hj => absurd hj (by simp), Nat.zero_le _, hr.lv⟩
  have hm1 := h0.merge (a := x) (b := y) hx hy
  have hqm := hq0.merge h0 (.inr ⟨rfl, rfl⟩) (a := x) (b := y) hx hy
  have hlv : -1000000 ≤ s.live ∧ s.live ≤ 1000000 := by
    have h1 := hr.lv
    have h2 := dc_le s
    omega
  have HME := Lib.hid fun W (h : StR base b lim W { s with q := [] }) (hw : base ≤ W.heap.size) => merge159_any g base b lim x y W { s with q := [] } h0 h hw hx hy hn (by simp) hlv.1 hlv.2
  have hml : (mergeS { s with q := [] } x y).t.length = s.t.length := by rw [t_merge]
  have HS0 := Lib.hid q3
  have HB0 : Hid (Kf base w (w.setCell ⟨b, 2, none⟩ (.slice none 0 0))) := Lib.hid q4
  have HEND : Hid (∀ k, (coinTo m k (mergeS { s with q := [] } x y)).q.length ≤ k → k ≤ s.t.length → coinS m s x y = coinTo m k (mergeS { s with q := [] } x y)) := Lib.hid fun k h1 h2 => coinTo_stop _ _ h1 _ h2
  have HALL : Hid (∀ k, Inv g (coinTo m k (mergeS { s with q := [] } x y)) ∧ (coinTo m k (mergeS { s with q := [] } x y)).t.length = s.t.length ∧ QI g (min k (coinTo m k (mergeS { s with q := [] } x y)).q.length) 0 (coinTo m k (mergeS { s with q := [] } x y))) := Lib.hid fun k => by
    obtain ⟨a1, a2, a3, -⟩ := coinTo_inv hm1 hqm k
    rw [← hm] at a1 a2 a3
    exact ⟨a1, a2.n.trans hml, a3⟩
  generalize mergeS { s with q := [] } x y = s1 at *
  generalize hse : coinS m s x y = se at *
  generalize hs0 : ({ s with q := [] } : St) = s0 at *
  generalize s.t.length = n at *
  have HBW := Lib.hid hbw
  have HM := Lib.hid hm
  have hm0 : (m : Int) ≤ 32 := by omega
  have hn0 : (n : Int) ≤ 1000000 := by omega
  clear h0 hq0 hm1 hqm hr hS q3 q4 hml hbw hse hs0 hlv hm
  go_enter Try.func154, Try.ntmps154
  go_wp2_with (first
    | (go_at_call 159; (with_reducible refine (HME.out _ HS0.out (Nat.le_trans HBW.out HB0.out.size)).mono ?_); rintro e w1 ⟨rfl, hs1, hb1⟩
       have HS1 := Lib.hid hs1
       have HB1 := Lib.hid (HB0.out.trans hb1)
       clear hs1 hb1))
  clear q1 q2 HS0 HB0 HME
  go_loopw [6] (fun i wr => ∃ k : Nat, i = .int .i64 k ∧ k ≤ n ∧ Hid (StR base b lim wr (coinTo m k s1)) ∧ Hid (Kf base w wr)) (fun i _ => n - (intOf i).toNat)
  case atStart => exact ⟨0, rfl, Nat.zero_le _, HS1, HB1⟩
  case round =>
    obtain ⟨k, rfl, hkn, HS, HB⟩ := hrel
    clear HS1 HB1
    have hk0 : (0 : Int) ≤ (k : Int) := Int.natCast_nonneg _
    obtain ⟨a1, a2, a3⟩ := HALL.out k
    obtain ⟨A2, c2, q1, -, q3, -⟩ := HS.out.que
    have hql : (coinTo m k s1).q.length ≤ n := by have := a3.cnt; have := dc_le (coinTo m k s1); omega
    by_cases hlt : k < (coinTo m k s1).q.length
    · rw [show min k (coinTo m k s1).q.length = k by omega] at a3
      obtain ⟨gq, rfl, hcc⟩ := q3 (by omega)
      have hck := hcc k hlt
      have hPQ := fun c (hc : c ≤ 2 * g) => proc_q a1 a3 hlt c hc
      have HN1 := Lib.hid (coinTo_succ m k s1 hlt)
      have hel := (a3.qd k hlt).1
      rw [a2] at hel
      generalize coinTo m k s1 = sk at *
      generalize sk.q.getD k 0 = e at *
      have HPQ : Hid (∀ c, c ≤ m → Inv g (procTo e c sk) ∧ QI g k c (procTo e c sk) ∧ (procTo e c sk).t.length = n) := Lib.hid fun c hc => by
        obtain ⟨p1, p2, p3, -⟩ := hPQ c (by rw [← HM.out]; exact hc)
        exact ⟨p1, p3, p2.n.trans a2⟩
      have he0 : (0 : Int) ≤ (e : Int) := Int.natCast_nonneg _
      have he1 : (e : Int) < (n : Int) := by omega
      have hkl : (k : Int) < (sk.q.length : Int) := by omega
      have hqn : (sk.q.length : Int) ≤ (n : Int) := by omega
      clear a1 a2 a3 q3 hcc hPQ
      go_wp2_with fail
      go_loopw [8] (fun j wi => ∃ c : Nat, j = .int .i64 c ∧ c ≤ m ∧ Hid (StR base b lim wi (procTo e c sk)) ∧ Hid (Kf base w wi)) (fun j _ => m - (intOf j).toNat)
      case atStart => exact ⟨0, rfl, Nat.zero_le _, HS, HB⟩
      case round =>
        clear q1 hck HS HB
        obtain ⟨c, rfl, hcm, HS, HB⟩ := hrel
        have hc0 : (0 : Int) ≤ (c : Int) := Int.natCast_nonneg _
        obtain ⟨hI, hQ, hL⟩ := HPQ.out c hcm
        have HSTEP : Hid (procTo e (c + 1) sk = stepS e c (procTo e c sk)) := Lib.hid rfl
        have hlv : -1000000 ≤ (procTo e c sk).live ∧ (procTo e c sk).live ≤ 1000000 := by
          have h1 := hQ.lv
          have h2 := dc_le (procTo e c sk)
          omega
        have hqs : (procTo e c sk).q.length ≤ 1000000 := by
          have h1 := hQ.cnt
          have h2 := dc_le (procTo e c sk)
          omega
        generalize hsn : procTo e (c + 1) sk = sn at *
        have HSN := Lib.hid hsn
        clear hsn
        by_cases hc : c < m
        · have hcI : (c : Int) < (m : Int) := by omega
          generalize procTo e c sk = sc at *
          have hel' : e < sc.t.length := by omega
          have hcg : c < 2 * g := by rw [← HM.out]; exact hc
          have hbd := hI.bd e hel' c hcg
          obtain ⟨gr, cr, bl, cs, f1, hv1, hv2⟩ := HS.out.view hI.len (by omega)
          have f2 := hv1 e hel'
          obtain ⟨f3, f4, f5⟩ := hv2 e c hel' hcg
          have HF5 := Lib.hid f5
          rw [hL] at f1
          rw [← HM.out] at f2
          clear hv1 hv2 f5
          by_cases hd : sc.t.at e c < 0
          · have HE : Hid (stepS e c sc = sc) := Lib.hid (by unfold stepS; rw [if_pos hd])
            have hbd1 := hbd.1
            clear hI hQ hbd hlv hqs f4 HF5
            generalize sc.t.at e c = d at *
            generalize bl e = be at *
            generalize cs e = ke at *
            go_wp2_with fail
            go_roundw
            case rel => exact ⟨c + 1, by go_num, by omega, by rw [HSN.out, HSTEP.out, HE.out]; exact HS, HB⟩
            case measure => simp [intOf]; omega
          · obtain ⟨d, hde⟩ : ∃ d : Nat, sc.t.at e c = (d : Int) := ⟨(sc.t.at e c).toNat, by omega⟩
            have hd' : 0 ≤ sc.t.at e c := by omega
            have hcut := hI.cut hel' hcg hd'
            have hdl : d < n := by omega
            have hfg : flp c < 2 * g := flp_lt2 hcg
            have hfm : flp c < m := by rw [HM.out]; exact hfg
            have hfe := flp_eq c (by omega)
            have hf0 : (0 : Int) ≤ ((flp c : Nat) : Int) := Int.natCast_nonneg _
            have hf1 : ((flp c : Nat) : Int) < (m : Int) := by omega
            have hd0 : (0 : Int) ≤ (d : Int) := Int.natCast_nonneg _
            have hd1 : (d : Int) < (n : Int) := by omega
            have HSE : Hid (stepS e c sc = if 0 ≤ (cutT sc.t e c).at (sc.rp e) c then mergeS { sc with t := cutT sc.t e c } ((cutT sc.t e c).at (sc.rp e) c).toNat (sc.rp d) else
                if 0 ≤ (cutT sc.t e c).at (sc.rp d) (flp c) then mergeS { sc with t := cutT sc.t e c } ((cutT sc.t e c).at (sc.rp d) (flp c)).toNat (sc.rp e) else { sc with t := joinT (cutT sc.t e c) (sc.rp e) c (sc.rp d) }) := Lib.hid (by
              unfold stepS
              rw [if_neg hd, hde, Int.toNat_natCast])
            have HCT : Hid (cutT sc.t e c = set2 (set2 sc.t e c (-1)) d (flp c) (-1)) := Lib.hid (by unfold cutT; rw [hde, Int.toNat_natCast])
            have hst1 := (HF5.out (-1)).1
            have hbe1 := (HF5.out (-1)).2
            rw [hde] at f3
            generalize bl e = be at *
            generalize cs e = ke at *
            have HB1 := Lib.hid (HB.out.trans hbe1)
            have hlen1 : ({ sc with t := set2 sc.t e c (-1) } : St).t.length = sc.t.length := length_set2 _ _ _ _
            obtain ⟨gr1, cr1, bl1, cs1, p1, hv1, hv2⟩ := hst1.view (inv_len1 hI e c (-1)) (by rw [hlen1]; omega)
            have p2 := hv1 d (by rw [hlen1]; omega)
            obtain ⟨p3, p4, p5⟩ := hv2 d (flp c) (by rw [hlen1]; omega) hfg
            rw [hlen1, hL] at p1
            rw [← HM.out] at p2
            have hst2 := (p5 (-1)).1
            have HB2 := Lib.hid (HB1.out.trans (p5 (-1)).2)
            have hse2 : ({ ({ sc with t := set2 sc.t e c (-1) } : St) with t := set2 (set2 sc.t e c (-1)) d (flp c) (-1) } : St) = { sc with t := cutT sc.t e c } := by rw [HCT.out]
            rw [hse2] at hst2
            have HP := Lib.hid (⟨p1, p2, p3, p4⟩ : _ ∧ _ ∧ _ ∧ _)
            have HST := Lib.hid hst2
            clear hv1 hv2 p1 p2 p3 p4 p5 hst1 hst2 hbe1 hse2 HF5 hd
            go_upto_region 12 with fail
            generalize wr.setCell ⟨be, c, none⟩ (.int .i64 (-1)) = w1 at *
            clear f1 f2 f3 f4
            obtain ⟨p1, p2, p3, p4⟩ := HP.out
            generalize bl1 d = bd at *
            generalize cs1 d = kd at *
            go_upto_region 13 with fail
            generalize w1.setCell ⟨bd, flp c, none⟩ (.int .i64 (-1)) = w2 at *
            clear p1 p2 p3 p4 HP
            generalize hs1e : ({ sc with t := cutT sc.t e c } : St) = s2 at *
            have hL2 : s2.t.length = n := by rw [← hs1e]; exact (length_cut _ _ _).trans hL
            have ht2 : s2.t = cutT sc.t e c := by rw [← hs1e]
            have hrp : ∀ z, s2.rp z = sc.rp z := fun z => by rw [← hs1e]; rfl
            have hlv2 : -1000000 ≤ s2.live ∧ s2.live ≤ 1000000 := by rw [← hs1e]; exact hlv
            have hqs2 : s2.q.length ≤ 1000000 := by rw [← hs1e]; exact hqs
            have hjoin : ({ sc with t := joinT s2.t (s2.rp e) c (s2.rp d) } : St) = joinS s2 (s2.rp e) c (s2.rp d) := by rw [← hs1e]; rfl
            rw [← ht2, ← hrp e, ← hrp d, hjoin] at HSE
            have hu : s2.rp e < n := by have := hcut.rlt (x := e) (by omega); omega
            have hv : s2.rp d < n := by have := hcut.rlt (x := d) (by omega); omega
            have hb1 := hcut.bd (s2.rp e) (by omega) c hcg
            have hb2 := hcut.bd (s2.rp d) (by omega) (flp c) hfg
            have HFE := Lib.hid (rep160_any g base b lim e w2 s2 hcut HST.out (by omega) (by omega))
            have HFD := Lib.hid (rep160_any g base b lim d w2 s2 hcut HST.out (by omega) (by omega))
            have HME2 : Hid (∀ (p q : Nat), p < n → q < n → Calls Try.prog 159 #[.pointer (some ⟨b, 0, none⟩), .int .i64 (p : Int), .int .i64 (q : Int)] w2 fun e w' => e = .returned (.tuple #[]) ∧ StR base b lim w' (mergeS s2 p q) ∧ Kf base w2 w') := Lib.hid fun p q h1 h2 =>
              merge159_any g base b lim p q w2 s2 hcut HST.out (Nat.le_trans HBW.out HB2.out.size) (by omega) (by omega) (by omega) hqs2 hlv2.1 hlv2.2
            obtain ⟨gr2, cr2, bl2, cs2, p1, hv1, hv2⟩ := HST.out.view hcut.len (by omega)
            have pu := hv1 (s2.rp e) (by omega)
            have pv := hv1 (s2.rp d) (by omega)
            obtain ⟨pu1, pu2, pu3⟩ := hv2 (s2.rp e) c (by omega) hcg
            obtain ⟨pv1, pv2, -⟩ := hv2 (s2.rp d) (flp c) (by omega) hfg
            rw [hL2] at p1
            rw [← HM.out] at pu pv
            have HLEN : Hid (∀ z, ∀ r, r < ({ s2 with t := set2 s2.t (s2.rp e) c z } : St).t.length → (({ s2 with t := set2 s2.t (s2.rp e) c z } : St).t.row r).length = 2 * g) := Lib.hid fun z => inv_len1 hcut (s2.rp e) c z
            have hj2 : ∀ u v : Nat, ({ ({ s2 with t := set2 s2.t u c (v : Int) } : St) with t := set2 (set2 s2.t u c (v : Int)) v (flp c) (u : Int) } : St) = joinS s2 u c v := fun u v => rfl
            have HJ2 := Lib.hid (hj2 (s2.rp e) (s2.rp d))
            have HPU3 := Lib.hid (pu3 ((s2.rp d : Nat) : Int))
            have HL2 := Lib.hid hL2
            clear hjoin hs1e hlv2 hqs2 hlv hqs hrp ht2 hcut hI hQ pu3 hv1 hv2 hj2 hL2
            generalize s2.t.at (s2.rp e) c = y1 at *
            generalize s2.t.at (s2.rp d) (flp c) = y2 at *
            generalize hsj : joinS s2 (s2.rp e) c (s2.rp d) = sj at *
            clear hsj
            generalize hue : s2.rp e = u at *
            generalize hve : s2.rp d = v at *
            clear hue hve
            have hu0 : (0 : Int) ≤ (u : Int) := Int.natCast_nonneg _
            have hv0 : (0 : Int) ≤ (v : Int) := Int.natCast_nonneg _
            have hu1 : (u : Int) < (n : Int) := by omega
            have hv1 : (v : Int) < (n : Int) := by omega
            by_cases h1 : 0 ≤ y1
            · obtain ⟨z1, rfl⟩ : ∃ z : Nat, y1 = (z : Int) := ⟨y1.toNat, by omega⟩
              have HRES : Hid (stepS e c sc = mergeS s2 v z1) := Lib.hid (by rw [HSE.out, if_pos h1, Int.toNat_natCast, merge_comm])
              have HLAST := Lib.hid (HME2.out v z1 (by omega) (by rw [HL2.out] at hb1; omega))
              clear HME2 HPU3 HJ2
              generalize mergeS s2 v z1 = s9 at *
              generalize bl2 u = bu at *
              generalize cs2 u = ku at *
              generalize bl2 v = bv at *
              generalize cs2 v = kv at *
              go_wp2_with (first
                | (go_at_call 160; (with_reducible refine HFE.out.mono ?_); rintro E w10 ⟨rfl, rfl⟩; clear HFE)
                | (go_at_call 160; (with_reducible refine HFD.out.mono ?_); rintro E w11 ⟨rfl, rfl⟩; clear HFD)
                | (go_at_call 159; (with_reducible refine HLAST.out.mono ?_); rintro E w12 ⟨rfl, hs3, hb3⟩
                   have HS12 := Lib.hid hs3
                   have HB12 := Lib.hid (HB2.out.trans hb3)
                   clear hs3 hb3))
              go_roundw
              case rel => exact ⟨c + 1, by go_num, by omega, by rw [HSN.out, HSTEP.out, HRES.out]; exact HS12, HB12⟩
              case measure => simp [intOf]; omega
            · have h1' : y1 < 0 := by omega
              by_cases h2 : 0 ≤ y2
              · obtain ⟨z2, rfl⟩ : ∃ z : Nat, y2 = (z : Int) := ⟨y2.toNat, by omega⟩
                have HRES : Hid (stepS e c sc = mergeS s2 u z2) := Lib.hid (by rw [HSE.out, if_neg h1, if_pos h2, Int.toNat_natCast, merge_comm])
                have HLAST := Lib.hid (HME2.out u z2 (by omega) (by rw [HL2.out] at hb2; omega))
                clear HME2 HPU3 HJ2 h1
                generalize mergeS s2 u z2 = s9 at *
                generalize bl2 u = bu at *
                generalize cs2 u = ku at *
                generalize bl2 v = bv at *
                generalize cs2 v = kv at *
                go_wp2_with (first
                  | (go_at_call 160; (with_reducible refine HFE.out.mono ?_); rintro E w10 ⟨rfl, rfl⟩; clear HFE)
                  | (go_at_call 160; (with_reducible refine HFD.out.mono ?_); rintro E w11 ⟨rfl, rfl⟩; clear HFD)
                  | (go_at_call 159; (with_reducible refine HLAST.out.mono ?_); rintro E w12 ⟨rfl, hs3, hb3⟩
                     have HS12 := Lib.hid hs3
                     have HB12 := Lib.hid (HB2.out.trans hb3)
                     clear hs3 hb3))
                go_roundw
                case rel => exact ⟨c + 1, by go_num, by omega, by rw [HSN.out, HSTEP.out, HRES.out]; exact HS12, HB12⟩
                case measure => simp [intOf]; omega
              · have h2' : y2 < 0 := by omega
                have HRES : Hid (stepS e c sc = sj) := Lib.hid (by rw [HSE.out, if_neg h1, if_neg h2])
                clear HME2 h1 h2
                obtain ⟨hst3, hbe3⟩ := HPU3.out
                have hlen3 : ({ s2 with t := set2 s2.t u c (v : Int) } : St).t.length = n := (length_set2 _ _ _ _).trans HL2.out
                obtain ⟨gr3, cr3, bl3, cs3, r1, hv3, hv4⟩ := hst3.view (HLEN.out _) (by rw [hlen3]; omega)
                have r2 := hv3 v (by rw [hlen3]; omega)
                obtain ⟨r3, r4, r5⟩ := hv4 v (flp c) (by rw [hlen3]; omega) hfg
                rw [hlen3] at r1
                rw [← HM.out] at r2
                have hst4 := (r5 (u : Int)).1
                have HB4 := Lib.hid ((HB2.out.trans hbe3).trans (r5 (u : Int)).2)
                rw [HJ2.out] at hst4
                have HST4 := Lib.hid hst4
                have HR := Lib.hid (⟨r1, r2, r3, r4⟩ : _ ∧ _ ∧ _ ∧ _)
                clear hst3 hbe3 hv3 hv4 r1 r2 r3 r4 r5 hst4 HPU3 HJ2 HLEN
                generalize bl2 u = bu at *
                generalize cs2 u = ku at *
                generalize bl2 v = bv at *
                generalize cs2 v = kv at *
                generalize bl3 v = bw at *
                generalize cs3 v = kw at *
                go_upto_region 15 with (first
                  | (go_at_call 160; (with_reducible refine HFE.out.mono ?_); rintro E w10 ⟨rfl, rfl⟩; clear HFE)
                  | (go_at_call 160; (with_reducible refine HFD.out.mono ?_); rintro E w11 ⟨rfl, rfl⟩; clear HFD))
                generalize w2.setCell ⟨bu, c, none⟩ (.int .i64 (v : Int)) = w3 at *
                clear p1 pu pv pu1 pu2 pv1 pv2
                obtain ⟨r1, r2, r3, r4⟩ := HR.out
                go_wp2_with fail
                go_roundw
                case rel => exact ⟨c + 1, by go_num, by omega, by rw [HSN.out, HSTEP.out, HRES.out]; exact HST4, HB4⟩
                case measure => simp [intOf]; omega
        · obtain rfl : c = m := by omega
          obtain ⟨gr, cr, bl, cs, f1, hv1, hv2⟩ := HS.out.view hI.len (by omega)
          have f2 := hv1 e (by omega)
          have HNX := Lib.hid HN1.out
          rw [hL] at f1
          rw [← HM.out] at f2
          generalize bl e = be at *
          generalize cs e = ke at *
          clear hv1 hv2 hI hQ hlv hqs
          go_wp2_with fail
          go_roundw
          case rel => exact ⟨k + 1, by go_num, by omega, by rw [HNX.out]; exact HS, HB⟩
          case measure => simp [intOf]; omega
    · have HE : Hid (se = coinTo m k s1) := Lib.hid (HEND.out k (by omega) hkn)
      have hkl : ¬ (k : Int) < ((coinTo m k s1).q.length : Int) := by omega
      generalize coinTo m k s1 = sk at *
      clear a1 a2 a3 q3 hlt
      go_wp2_with fail
      go_end0
      exact ⟨rfl, by rw [HE.out]; exact HS.out, HB.out⟩
end Go.Proofs
namespace Go.Proofs
open Go.RowKit Go.Shelf Go.Proofs.Ct Go.Maps
theorem StP.drew {base b wd lim : Nat} {w : World} {s : St} (hS : StP base b wd lim w s) : StP base b wd lim w.drew s := by
  obtain ⟨hb, P, vr, vp, vq, bl, cs, hB, hC⟩ := hS
  have hd := (Below.refl w.heap.size w).drew
  exact ⟨hb, P, vr, vp, vq, bl, cs, hB.below hd, hC.below hd⟩
/-- an edge is cut -/
theorem StP.cut {g base b wd lim : Nat} {w : World} {s : St} (hI : Inv g s) (hS : StP base b wd lim w s) {e c : Nat} (he : e < s.t.length) (hc : c < 2 * g) (_hd : 0 ≤ s.t.at e c) :
    ∃ gr cr be ke bd kd x2, w.cell? ⟨b, 2, none⟩ = some (.slice (some ⟨gr, 0, none⟩) s.t.length cr) ∧ w.cell? ⟨gr, e, none⟩ = some (.slice (some ⟨be, 0, none⟩) (2 * g) ke) ∧ w.cell? ⟨gr, (s.t.at e c).toNat, none⟩ = some (.slice (some ⟨bd, 0, none⟩) (2 * g) kd) ∧
      w.cell? ⟨be, c, none⟩ = some (.int .i64 (s.t.at e c)) ∧ w.frozen? ⟨be, c, none⟩ = false ∧
      (w.setCell ⟨be, c, none⟩ (.int .i64 (-1))).cell? ⟨b, 2, none⟩ = some (.slice (some ⟨gr, 0, none⟩) s.t.length cr) ∧ (w.setCell ⟨be, c, none⟩ (.int .i64 (-1))).cell? ⟨gr, (s.t.at e c).toNat, none⟩ = some (.slice (some ⟨bd, 0, none⟩) (2 * g) kd) ∧
      (w.setCell ⟨be, c, none⟩ (.int .i64 (-1))).cell? ⟨bd, flp c, none⟩ = some (.int .i64 x2) ∧ (w.setCell ⟨be, c, none⟩ (.int .i64 (-1))).frozen? ⟨bd, flp c, none⟩ = false ∧
      StP base b wd lim ((w.setCell ⟨be, c, none⟩ (.int .i64 (-1))).setCell ⟨bd, flp c, none⟩ (.int .i64 (-1))) { s with t := cutT s.t e c } ∧ Below base w ((w.setCell ⟨be, c, none⟩ (.int .i64 (-1))).setCell ⟨bd, flp c, none⟩ (.int .i64 (-1))) := by
  obtain ⟨hb, P, vr, vp, vq, bl, cs, hB, hC⟩ := hS
  have hdl : (s.t.at e c).toNat < s.t.length := by have := (hI.bd e he c hc).2; omega
  have hle := hI.len e he
  have hld := hI.len _ hdl
  have hf := flp_lt2 hc
  obtain ⟨gr, cr, rfl, r1, r2, r3⟩ := hC.at_ he (c := c) (by omega)
  obtain ⟨gr', cr', e', p1, p2, p3⟩ := hC.at_ hdl (c := flp c) (by omega)
  injection e' with e1 e2 e3
  injection e1 with e1
  injection e1 with e1
  subst e1
  have hC1 := hC.set he (c := c) (by omega) (-1)
  have hbe := hC.row e he
  obtain ⟨Ce, hCe, -⟩ := id hbe.2.1
  have hB1 := hB.other ⟨Ce, hCe⟩ (by decide) c (.int .i64 (-1))
  have hlen1 : ({ s with t := set2 s.t e c (-1) } : St).t.length = s.t.length := length_set2 _ _ _ _
  obtain ⟨gr', cr', e', q1, q2, q3⟩ := hC1.at_ (r := (s.t.at e c).toNat) (c := flp c) (by rw [hlen1]; exact hdl) (by simp only [rowlen_set2]; omega)
  injection e' with e1 e2 e3
  injection e1 with e1
  injection e1 with e1
  subst e1
  have hC2 := hC1.set (r := (s.t.at e c).toNat) (c := flp c) (by rw [hlen1]; exact hdl) (by simp only [rowlen_set2]; omega) (-1)
  have hbd := hC1.row (s.t.at e c).toNat (by rw [hlen1]; exact hdl)
  obtain ⟨Cd, hCd, -⟩ := id hbd.2.1
  have hB2 := hB1.other ⟨Cd, hCd⟩ (by decide) (flp c) (.int .i64 (-1))
  simp only [rowlen_set2] at q1
  rw [hld] at q1 p1
  rw [hle] at r1
  exact ⟨gr, cr, bl e, cs e, bl (s.t.at e c).toNat, cs (s.t.at e c).toNat, _, hB.cells.2.2.1, r1, p1, r2, r3, hB1.cells.2.2.1, q1, q2, q3, ⟨hb, P, _, vp, vq, bl, cs, hB2.of rfl rfl, hC2⟩, ((Below.refl base w).setCell hbe.1 _).setCell hbd.1 _⟩
end Go.Proofs
namespace Go.Proofs
open Go.Shelf
end Go.Proofs
namespace Go.Proofs
open Go.RowKit Go.Proofs.Ct Go.Shelf
/-- k letters x, then noughts, c in all -/
def rp (x : Int) (k c : Nat) : List Value := List.replicate k (.int .i64 x) ++ List.replicate (c - k) (.int .i64 0)
theorem make24r (w : World) (n : Nat) (hn : n ≤ 100000) : (Instr.makeSlice 24 (.int .i64 (n : Int)) (.int .i64 (n : Int))).run Try.prog w =
    .ok (.slice (some ⟨w.heap.size, 0, none⟩) n n) (w.alloc (.cells (Array.replicate n (.int .i64 0)) 3)) := by
  obtain ⟨i, hi, hz, hs, hb⟩ := info3p
  have := run_makeSlice (P := Try.prog) w 24 3 i (.int .i64 0) Try.underlying24 hi hz .i64 .i64 n n (by omega) (Int.le_refl _) (by rw [hs]; simp; omega) (by rw [hb]; omega) (by omega)
  rw [this, hs, Int.toNat_natCast, Nat.mul_one, made3]
theorem rp_zero (x : Int) (c : Nat) : Array.replicate c (Value.int .i64 0) = (rp x 0 c).toArray := by simp [rp]
end Go.Proofs
namespace Go.Proofs
open Go.RowKit Go.Shelf Go.Proofs.Ct Go.Maps
/-- append of one element, wherever it lies -/
theorem run_push_at {t ty e : TypeId} {z : Value} {bytes : Nat} (ht : Try.prog.underlying t = some (.slice e)) (hi : ∃ i, Try.prog.info? e = some i ∧ i.zero = some z ∧ i.size = 1 ∧ i.bytes = bytes) (hz : z.cells.size = 1) (hby : bytes ≤ 1000)
    (w : World) (base : Nat) (v : Value) (n : Nat) (xs : List Value) (hown : w.ownsRow base e 1 v n xs) (x : Value) (h1 : x.oneCell' = true) (hn : n ≤ 10000000) (hb : base ≤ w.heap.size) (h : Nat) (hx : w.cell? ⟨h, 0, none⟩ = some x) :
    ∃ A' c' w', (Builtin.append_ #[t, t] ty #[v, .slice (some ⟨h, 0, none⟩) 1 1]).run Try.prog w = .ok (.slice A' (n + 1) c') w' ∧ w'.ownsRow base e 1 (.slice A' (n + 1) c') (n + 1) (xs ++ [x]) ∧
      w.grownBy w' v.ownBlock ∧ ((Value.slice A' (n + 1) c').ownBlock = v.ownBlock ∨ ∃ r, (Value.slice A' (n + 1) c').ownBlock = some r ∧ w.heap.size ≤ r) := by
  obtain ⟨i, hi, hz', hs, hb'⟩ := hi
  have hnews : ∀ j u, [x][j]? = some u → w.cell? ((⟨h, 0, none⟩ : Addr).add j) = some u := fun j u hu => by
    match j, hu with
    | 0, hu => rw [Addr.add_lit, Nat.add_zero, hx]; simpa using hu
  obtain ⟨v', w', hr, hown', hg, -, hw⟩ := run_append_own_at (P := Try.prog) w base t ty e i z 1 bytes ht hi hz' hs hb' hz (by omega) v n xs hown ⟨h, 0, none⟩ 1 1 [x] rfl hnews (fun u hu => by simp at hu; rw [hu]; exact h1) (by unfold maxLen; omega)
    (by have : (n + 1) * bytes ≤ 10000001 * 1000 := Nat.mul_le_mul (by omega) hby
        omega) hb
  obtain ⟨A', c', rfl⟩ := owns_form hown'
  refine ⟨A', c', w', hr, hown', hg, ?_⟩
  rcases hw with hw | hw
  · exact .inl hw
  · exact .inr ⟨_, hw, Nat.le_refl _⟩
/-- rows, parents and queue in memory, with nothing between them -/
structure CoreN (base : Nat) (w : World) (t : Tb) (q : List Nat) (P : List Int) (vr vp vq : Value) (bl cs : Nat → Nat) : Prop where
  out : w.ownsRow base 24 1 vr t.length ((List.range t.length).map fun i => .slice (some ⟨bl i, 0, none⟩) (t.row i).length (cs i))
  row : ∀ i, i < t.length → base ≤ bl i ∧ XsAt w (bl i) (t.row i) ∧ (t.row i).length ≤ cs i ∧ cs i ≤ 9223372036854775807
  inj : ∀ i j, i < t.length → j < t.length → bl i = bl j → i = j
  par : OwnI base w vp P
  que : OwnI base w vq (nats q)
  sepP : ∀ i, i < t.length → vp.ownBlock ≠ some (bl i)
  sepQ : ∀ i, i < t.length → vq.ownBlock ≠ some (bl i)
  pq : ∀ r, vp.ownBlock = some r → vq.ownBlock ≠ some r
theorem CoreM.toN {base : Nat} {w : World} {s : St} {P : List Int} {vr vp vq : Value} {bl cs : Nat → Nat} (h : CoreM base w s P vr vp vq bl cs) : CoreN base w s.t s.q P vr vp vq bl cs := ⟨h.out, h.row, h.inj, h.par, h.que, h.sepP, h.sepQ, h.pq⟩
section
variable {base : Nat} {w w' : World} {t : Tb} {q : List Nat} {P : List Int} {vr vp vq : Value} {bl cs : Nat → Nat}
theorem CoreN.toM {s : St} (h : CoreN base w s.t s.q P vr vp vq bl cs) (hr : Roots P s) : CoreM base w s P vr vp vq bl cs := ⟨h.out, h.row, h.inj, h.par, h.que, h.sepP, h.sepQ, h.pq, hr⟩
theorem CoreN.keep (h : CoreN base w t q P vr vp vq bl cs) (hk : ∀ k C e, base ≤ k → w.heap[k]? = some (.cells C e (0, 0)) → (e = 3 ∨ e = 24) → w'.heap[k]? = w.heap[k]?) : CoreN base w' t q P vr vp vq bl cs := by
  refine ⟨owns_keep h.out fun r hr => ?_, fun i hi => ?_, h.inj, owns_keep h.par fun r hr => ?_, owns_keep h.que fun r hr => ?_, h.sepP, h.sepQ, h.pq⟩
  · obtain ⟨a, C, hC⟩ := owns_block h.out r hr
    exact hk r C 24 a hC (.inr rfl)
  · obtain ⟨a, b, c⟩ := h.row i hi
    obtain ⟨C, hC, -⟩ := id b
    exact ⟨a, b.keep (hk _ C 3 a hC (.inl rfl)), c⟩
  · obtain ⟨a, C, hC⟩ := owns_block h.par r hr
    exact hk r C 3 a hC (.inl rfl)
  · obtain ⟨a, C, hC⟩ := owns_block h.que r hr
    exact hk r C 3 a hC (.inl rfl)
theorem CoreN.below (h : CoreN base w t q P vr vp vq bl cs) (hb : Below w.heap.size w w') : CoreN base w' t q P vr vp vq bl cs :=
  h.keep fun k _C _e _ hC _ => hb.block k (Array.getElem?_eq_some_iff.1 hC).1
theorem CoreN.other (h : CoreN base w t q P vr vp vq bl cs) {b : Nat} {C0 : Array Value} {T : TypeId} (hb : w.heap[b]? = some (.cells C0 T (0, 0))) (h3 : T ≠ 3) (h24 : T ≠ 24) (k : Nat) (v : Value) : CoreN base (w.setCell ⟨b, k, none⟩ v) t q P vr vp vq bl cs :=
  h.keep fun j C e _ hC he => Below.heap_setCell w ⟨b, k, none⟩ v j fun e' => by
    have e'' : j = b := e'
    rw [e'', hb] at hC
    cases hC
    rcases he with he | he <;> simp_all
theorem row_append (t : Tb) (x : List Int) (i : Nat) : Tb.row (t ++ [x]) i = if i < t.length then t.row i else if i = t.length then x else [] := by
  unfold Tb.row
  rw [List.getD_eq_getElem?_getD, List.getElem?_append]
  by_cases h : i < t.length
  · simp [h, List.getD_eq_getElem?_getD]
  · by_cases h2 : i = t.length
    · subst h2; simp
    · rw [if_neg h, if_neg h, if_neg h2, List.getElem?_eq_none (by simp; omega)]
      rfl
/-- a parent joins -/
theorem CoreN.pushP (h : CoreN base w t q P vr vp vq bl cs) (hbw : base ≤ w.heap.size) {h0 : Nat} {z : Int} (hc : w.cell? ⟨h0, 0, none⟩ = some (.int .i64 z)) (hl : P.length ≤ 1000000) :
    ∃ A c w', (Builtin.append_ #[24, 24] 24 #[vp, .slice (some ⟨h0, 0, none⟩) 1 1]).run Try.prog w = .ok (.slice A (P.length + 1) c) w' ∧ CoreN base w' t q (P ++ [z]) vr (.slice A (P.length + 1) c) vq bl cs ∧ w.grownBy w' vp.ownBlock := by
  obtain ⟨A, c, w', hr, ho, hgr, hw⟩ := run_push_at (t := 24) (ty := 24) Try.underlying24 info3p rfl (by omega) w base vp P.length _ h.par (.int .i64 z) rfl (by omega) hbw h0 hc
  have hnewb : ∀ r, (Value.slice A (P.length + 1) c).ownBlock = some r → vp.ownBlock = some r ∨ w.heap.size ≤ r := fun r hr => by
    rcases hw with hw | ⟨r', hr', hge⟩
    · exact .inl (by rw [← hw]; exact hr)
    · rw [hr] at hr'
      cases hr'
      exact .inr hge
  refine ⟨A, c, w', hr, ⟨owns_keep h.out fun k hk => ?_, fun i hi => ?_, h.inj, ?_, owns_keep h.que fun k hk => ?_, fun i hi e => ?_, h.sepQ, fun r hr e => ?_⟩, hgr⟩
  · obtain ⟨-, C, hC⟩ := owns_block h.out k hk
    refine hgr.block k (Array.getElem?_eq_some_iff.1 hC).1 fun e => ?_
    obtain ⟨-, C', hC'⟩ := owns_block h.par k e.symm
    rw [hC] at hC'
    cases hC'
  · obtain ⟨a, b, d⟩ := h.row i hi
    obtain ⟨C, hC, -⟩ := id b
    exact ⟨a, b.keep (hgr.block _ (Array.getElem?_eq_some_iff.1 hC).1 fun e => h.sepP i hi e.symm), d⟩
  · show w'.ownsRow base 3 1 _ (P ++ [z]).length (ints (P ++ [z]))
    rw [ints_app, List.length_append]
    exact ho
  · obtain ⟨-, C, hC⟩ := owns_block h.que k hk
    exact hgr.block k (Array.getElem?_eq_some_iff.1 hC).1 fun e => h.pq k e.symm hk
  · obtain ⟨-, b, -⟩ := h.row i hi
    rcases hnewb _ e with e | e
    · exact h.sepP i hi e
    · exact absurd b.lt (by omega)
  · rcases hnewb _ hr with e' | e'
    · exact h.pq r e' e
    · exact absurd (owns_lt h.que e) (by omega)
end
end Go.Proofs
namespace Go.Proofs
open Go.RowKit Go.Shelf Go.Proofs.Ct Go.Maps
theorem bs24 (x : Int) (w : World) : (Instr.buildSlice 24 1 #[(0, .int .i64 x)]).run Try.prog w = .ok (.slice (some ⟨w.heap.size, 0, none⟩) 1 1) (w.alloc (.cells #[.int .i64 x] 3)) := by kernel_rfl
section
variable {o : Oper} {a : Act} {w w' : World} {n : Nat} {v : Value}
theorem r_bs24 (x : Operand) (i : Int) (ho : o.op = .buildSlice 24 1 #[(0, x)]) (hx : a.eval x = .int .i64 i) : (execOp a.eval o).run Try.prog w = .ok (.value (.slice (some ⟨w.heap.size, 0, none⟩) 1 1)) (w.alloc (.cells #[.int .i64 i] 3)) := by
  have hb := bs24 i w
  unfold execOp
  simp only [ho, List.map_toArray, List.map_cons, List.map_nil, hx, Sem.run_bind, hb, Result.andThen_ok]
  rfl
theorem r_len (x : Operand) (T : TypeId) (A : Option Addr) (m c : Nat) {E : TypeId} (hT : Try.prog.underlying T = some (.slice E)) (ho : o.op = .call { callee := .builtin .len, args := #[x], argTypes := #[T] }) (hx : a.eval x = .slice A m c) : (execOp a.eval o).run Try.prog w = .ok (.value (.int .i64 (m : Int))) w := by
  unfold execOp
  simp only [ho, resolve, invoke, builtin, Sem.run_bind, Sem.run_pure, Result.andThen_ok, List.map_toArray, List.map_cons, List.map_nil, hx]
  simp [Builtin.len_, run_underlying hT, goInt]
theorem r_max2 (x y : Operand) (i j z : Int) (ho : o.op = .call { callee := .builtin .max, args := #[x, y], argTypes := #[3, 3] }) (hx : a.eval x = .int .i64 i) (hy : a.eval y = .int .i64 j) (hz : z = max i j) : (execOp a.eval o).run Try.prog w = .ok (.value (.int .i64 z)) w := by
  have e : (if j > i then j else i) = z := by rw [hz]; split <;> omega
  unfold execOp
  simp only [ho, resolve, invoke, builtin, Sem.run_bind, Sem.run_pure, Result.andThen_ok, List.map_toArray, List.map_cons, List.map_nil, hx, hy, run_max_int2, e]
end
/-- what an operation may turn: nothing that lies above N, and nothing of a state unless it is the operation z -/
def Still (N z : Nat) (i : Nat) (w w' : World) : Prop := (∀ k, N ≤ k → k < w.heap.size → w'.heap[k]? = w.heap[k]?) ∧ (i ≠ z → ∀ (k : Nat) (C : Array Value) (e : TypeId), w.heap[k]? = some (.cells C e (0, 0)) → (e = 3 ∨ e = 24) → w'.heap[k]? = w.heap[k]?)
theorem Still.same {N z i : Nat} {w : World} : Still N z i w w := ⟨fun _ _ _ => rfl, fun _ _ _ _ _ _ => rfl⟩
theorem Still.of_below {N z i : Nat} {w w' : World} (h : Below w.heap.size w w') : Still N z i w w' := ⟨fun k _ hk => h.block k hk, fun _ k _C _e hC _ => h.block k (Array.getElem?_eq_some_iff.1 hC).1⟩
theorem Still.box {N z i b : Nat} {w : World} {C0 : Array Value} (hb : w.heap[b]? = some (.cells C0 116 (0, 0))) (hN : b < N) (k : Nat) (v : Value) : Still N z i w (w.setCell ⟨b, k, none⟩ v) :=
  ⟨fun j hj _ => Below.heap_setCell w ⟨b, k, none⟩ v j (fun e => by have e' : j = b := e; omega), fun _ j C e hC he => Below.heap_setCell w ⟨b, k, none⟩ v j fun e' => by
    have e'' : j = b := e'
    rw [e'', hb] at hC
    cases hC
    rcases he with he | he <;> cases he⟩
theorem Still.grown {N z : Nat} {w w' : World} {row : Option Nat} (h : w.grownBy w' row) (hr : ∀ r, row = some r → r < N) : Still N z z w w' :=
  ⟨fun k hk hl => h.block k hl fun e => by have := hr k e.symm; omega, fun e => absurd rfl e⟩
/-- what each operation of the region that adds a row has brought -/
def RowF (base N m : Nat) (t : Tb) (q : List Nat) (P : List Int) (b : Nat) (vr vp vq : Value) (bl cs : Nat → Nat) : Nat → Value → World → Prop
  | 5, v, w => ∃ g, v = .slice (some ⟨g, 0, none⟩) 1 1 ∧ N ≤ g ∧ w.heap[g]? = some (.cells #[.int .i64 (-1)] 3 (0, 0))
  | 10, v, w => ∃ g, v = .slice (some ⟨g, 0, none⟩) m m ∧ N ≤ g ∧ w.heap[g]? = some (.cells (rp (-1) m m).toArray 3 (0, 0))
  | 11, v, w => ∃ g h, v = .slice (some ⟨h, 0, none⟩) 1 1 ∧ N ≤ g ∧ N ≤ h ∧ w.heap[g]? = some (.cells (rp (-1) m m).toArray 3 (0, 0)) ∧ w.heap[h]? = some (.cells #[.slice (some ⟨g, 0, none⟩) m m] 24 (0, 0))
  | 12, v, w => ∃ A c g, v = .slice A (t.length + 1) c ∧ CoreN base w (t ++ [List.replicate m (-1)]) q P v vp vq (fun i => if i = t.length then g else bl i) (fun i => if i = t.length then m else cs i)
  | i, v, _ => v = ([.pointer (some ⟨b, 0, none⟩), .pointer (some ⟨b, 0, none⟩), .pointer (some ⟨b, 0, none⟩), .pointer (some ⟨b, 2, none⟩), vr, undef, .pointer (some ⟨b, 0, none⟩), .pointer (some ⟨b, 0, none⟩), .pointer (some ⟨b, 0, none⟩), .int .i64 (m : Int), undef, undef, undef, .pointer (some ⟨b, 0, none⟩), .pointer (some ⟨b, 2, none⟩), undef] : List Value).getD i undef
theorem RowF.keep {base N m b : Nat} {t : Tb} {q : List Nat} {P : List Int} {vr vp vq : Value} {bl cs : Nat → Nat} : ∀ (i j : Nat) (v : Value) (w w' : World), i < 16 → j < 16 → i ≠ j → Still N 12 i w w' → RowF base N m t q P b vr vp vq bl cs j v w → RowF base N m t q P b vr vp vq bl cs j v w' := by
  intro i j v w w' hi hj hne hS h
  have hk : ∀ (g : Nat) (o : Obj), N ≤ g → w.heap[g]? = some o → w'.heap[g]? = some o := fun g o hg ho => (hS.1 g hg (Array.getElem?_eq_some_iff.1 ho).1).trans ho
  have hcases : j = 5 ∨ j = 10 ∨ j = 11 ∨ j = 12 ∨ (j ≠ 5 ∧ j ≠ 10 ∧ j ≠ 11 ∧ j ≠ 12) := by omega
  rcases hcases with rfl | rfl | rfl | rfl | ⟨h1, h2, h3, h4⟩
  · obtain ⟨g, e, hg, hc⟩ := h
    exact ⟨g, e, hg, hk g _ hg hc⟩
  · obtain ⟨g, e, hg, hc⟩ := h
    exact ⟨g, e, hg, hk g _ hg hc⟩
  · obtain ⟨g, h0, e, hg, hh, hc, hc2⟩ := h
    exact ⟨g, h0, e, hg, hh, hk g _ hg hc, hk h0 _ hh hc2⟩
  · obtain ⟨A, c, g, e, hC⟩ := h
    exact ⟨A, c, g, e, hC.keep fun k C e0 _ hC' he => hS.2 hne k C e0 hC' he⟩
  · unfold RowF at h ⊢
    split at h <;> first | contradiction | exact h
end Go.Proofs
namespace Go.Proofs
open Go.RowKit Go.Shelf Go.Proofs.Ct Go.Maps
/-- a state while a row joins: before the append, behind it, behind the store -/
structure RowS (base b m lim : Nat) (w : World) (s : St) (P : List Int) (vr vp vq : Value) (bl cs : Nat → Nat) (p q : Bool) (W : World) : Prop where
  box : q = false → BoxP b m lim W s vr vp vq ∧ (p = false → CoreN base W s.t s.q P vr vp vq bl cs)
  bel : Below base w W
  done : q = true → ∃ A c g, BoxP b m lim W s (.slice A (s.t.length + 1) c) vp vq ∧ CoreN base W (s.t ++ [List.replicate m (-1)]) s.q P (.slice A (s.t.length + 1) c) vp vq (fun i => if i = s.t.length then g else bl i) (fun i => if i = s.t.length then m else cs i)
section
variable {base b m lim : Nat} {w W W' : World} {s : St} {P : List Int} {vr vp vq : Value} {bl cs : Nat → Nat} {p q : Bool}
theorem RowS.below (h : RowS base b m lim w s P vr vp vq bl cs p q W) (hq : q = false) (hbw : base ≤ w.heap.size) (hb : Below W.heap.size W W') : RowS base b m lim w s P vr vp vq bl cs p q W' :=
  ⟨fun _ => ⟨(h.box hq).1.below hb, fun hp => ((h.box hq).2 hp).below hb⟩, h.bel.trans (hb.mono (Nat.le_trans hbw h.bel.size)), fun e => by rw [hq] at e; cases e⟩
theorem RowS.app (h : RowS base b m lim w s P vr vp vq bl cs p q W) (hq : q = false) (hbw : base ≤ w.heap.size) (hgr : W.grownBy W' vr.ownBlock) (hvr : ∀ r, vr.ownBlock = some r → base ≤ r ∧ r ≠ b) : RowS base b m lim w s P vr vp vq bl cs true q W' :=
  ⟨fun _ => ⟨(h.box hq).1.grown hgr (fun e => (hvr b e).2 rfl), fun e => (by cases e)⟩, h.bel.grown hgr (Nat.le_trans hbw h.bel.size) (fun r e => (hvr r e).1), fun e => by rw [hq] at e; cases e⟩
theorem RowS.fin {A : Option Addr} {c g : Nat} (h : RowS base b m lim w s P vr vp vq bl cs p q W) (hq : q = false) (hb : base ≤ b) (hC : CoreN base W (s.t ++ [List.replicate m (-1)]) s.q P (.slice A (s.t.length + 1) c) vp vq (fun i => if i = s.t.length then g else bl i) (fun i => if i = s.t.length then m else cs i)) : RowS base b m lim w s P vr vp vq bl cs p true (W.setCell ⟨b, 2, none⟩ (.slice A (s.t.length + 1) c)) :=
  ⟨fun e => (by cases e), h.bel.setCell hb _, fun _ => ⟨A, c, g, (h.box hq).1.upd2 _ rfl rfl, hC.other (h.box hq).1.box (by decide) (by decide) 2 _⟩⟩
end
/-- what each operation of the region that adds a parent has brought -/
def ParF (base N : Nat) (t : Tb) (q : List Nat) (P : List Int) (b : Nat) (vr vp vq : Value) (bl cs : Nat → Nat) : Nat → Value → World → Prop
  | 10, v, w => ∃ h, v = .slice (some ⟨h, 0, none⟩) 1 1 ∧ N ≤ h ∧ w.heap[h]? = some (.cells #[.int .i64 (P.length : Int)] 3 (0, 0))
  | 11, v, w => ∃ A c, v = .slice A (P.length + 1) c ∧ CoreN base w t q (P ++ [(P.length : Int)]) vr v vq bl cs
  | i, v, _ => v = ([.pointer (some ⟨b, 0, none⟩), .pointer (some ⟨b, 0, none⟩), .pointer (some ⟨b, 0, none⟩), .pointer (some ⟨b, 3, none⟩), vp, .pointer (some ⟨b, 0, none⟩), .pointer (some ⟨b, 0, none⟩), .pointer (some ⟨b, 3, none⟩), vp, .int .i64 (P.length : Int), undef, undef, .pointer (some ⟨b, 0, none⟩), .pointer (some ⟨b, 3, none⟩), undef] : List Value).getD i undef
theorem ParF.keep {base N b : Nat} {t : Tb} {q : List Nat} {P : List Int} {vr vp vq : Value} {bl cs : Nat → Nat} : ∀ (i j : Nat) (v : Value) (w w' : World), i < 15 → j < 15 → i ≠ j → Still N 11 i w w' → ParF base N t q P b vr vp vq bl cs j v w → ParF base N t q P b vr vp vq bl cs j v w' := by
  intro i j v w w' hi hj hne hS h
  have hk : ∀ (g : Nat) (o : Obj), N ≤ g → w.heap[g]? = some o → w'.heap[g]? = some o := fun g o hg ho => (hS.1 g hg (Array.getElem?_eq_some_iff.1 ho).1).trans ho
  have hcases : j = 10 ∨ j = 11 ∨ (j ≠ 10 ∧ j ≠ 11) := by omega
  rcases hcases with rfl | rfl | ⟨h1, h2⟩
  · obtain ⟨g, e, hg, hc⟩ := h
    exact ⟨g, e, hg, hk g _ hg hc⟩
  · obtain ⟨A, c, e, hC⟩ := h
    exact ⟨A, c, e, hC.keep fun k C e0 _ hC' he => hS.2 hne k C e0 hC' he⟩
  · unfold ParF at h ⊢
    split at h <;> first | contradiction | exact h
/-- a state while a parent joins -/
structure ParS (base N b m lim : Nat) (w : World) (s : St) (t : Tb) (P : List Int) (vr vp vq : Value) (bl cs : Nat → Nat) (p q : Bool) (W : World) : Prop where
  box : q = false → BoxP b m lim W s vr vp vq ∧ (p = false → CoreN base W t s.q P vr vp vq bl cs)
  bel : Below base w W
  siz : N ≤ W.heap.size
  done : q = true → ∃ A c, BoxP b m lim W s vr (.slice A (P.length + 1) c) vq ∧ CoreN base W t s.q (P ++ [(P.length : Int)]) vr (.slice A (P.length + 1) c) vq bl cs
section
variable {base N b m lim : Nat} {w W W' : World} {s : St} {t : Tb} {P : List Int} {vr vp vq : Value} {bl cs : Nat → Nat} {p q : Bool}
theorem ParS.below (h : ParS base N b m lim w s t P vr vp vq bl cs p q W) (hq : q = false) (hbw : base ≤ w.heap.size) (hb : Below W.heap.size W W') : ParS base N b m lim w s t P vr vp vq bl cs p q W' :=
  ⟨fun _ => ⟨(h.box hq).1.below hb, fun hp => ((h.box hq).2 hp).below hb⟩, h.bel.trans (hb.mono (Nat.le_trans hbw h.bel.size)), Nat.le_trans h.siz hb.size, fun e => by rw [hq] at e; cases e⟩
theorem ParS.app (h : ParS base N b m lim w s t P vr vp vq bl cs p q W) (hq : q = false) (hbw : base ≤ w.heap.size) (hgr : W.grownBy W' vp.ownBlock) (hvr : ∀ r, vp.ownBlock = some r → base ≤ r ∧ r ≠ b) : ParS base N b m lim w s t P vr vp vq bl cs true q W' :=
  ⟨fun _ => ⟨(h.box hq).1.grown hgr (fun e => (hvr b e).2 rfl), fun e => (by cases e)⟩, h.bel.grown hgr (Nat.le_trans hbw h.bel.size) (fun r e => (hvr r e).1), Nat.le_trans h.siz hgr.size, fun e => by rw [hq] at e; cases e⟩
theorem ParS.fin {A : Option Addr} {c : Nat} (h : ParS base N b m lim w s t P vr vp vq bl cs p q W) (hq : q = false) (hb : base ≤ b) (hC : CoreN base W t s.q (P ++ [(P.length : Int)]) vr (.slice A (P.length + 1) c) vq bl cs) : ParS base N b m lim w s t P vr vp vq bl cs p true (W.setCell ⟨b, 3, none⟩ (.slice A (P.length + 1) c)) :=
  ⟨fun e => (by cases e), h.bel.setCell hb _, by rw [World.size_setCell]; exact h.siz, fun _ => ⟨A, c, (h.box hq).1.upd3 _ rfl rfl, hC.other (h.box hq).1.box (by decide) (by decide) 3 _⟩⟩
end
theorem sel1 {W A B : World} {p : Bool} (h : W = bif p then B else A) (hp : p = false) : W = A := by
  subst hp
  exact h
end Go.Proofs
