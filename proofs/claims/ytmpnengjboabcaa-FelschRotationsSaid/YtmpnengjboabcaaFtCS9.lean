/- The cosets of Felsch's strategy: alive, top; The cosets of Felsch's strategy: merge; The cosets of Felsch's strategy: at, cut, set; The reference's state of Felsch's strategy in memory. -/
import Derived.Test.YtmpnengjboabcaaFtCS8
import Derived.Test.YtmpnengjboabcaaFtCS6
import Derived.StillTailTactics
namespace Go.Proofs.Ct
theorem Root.skip {P : List Int} {r y z : Nat} (hr : r < P.length) (h1 : P.getD r 0 = (y : Int)) (hy : y < r) (h2 : P.getD y 0 = (z : Int)) (hz : z ≤ y) {x q : Nat} (h : Root P x q) : Root (P.set r (z : Int)) x q := by
  induction h with
  | @here x hx =>
    have hne : r ≠ x := fun e => by subst e; rw [h1] at hx; omega
    exact .here (by rw [getD_set_of hr, if_neg hne]; exact hx)
  | @up x y' q hx hl hq ih =>
    by_cases e : r = x
    · subst e
      obtain rfl : y' = y := by rw [h1] at hx; omega
      by_cases hz' : z = y'
      · exact .up (y := z) (by rw [getD_set_of hr, if_pos rfl]) (by omega) (by rw [hz'] at ih ⊢; exact ih)
      · have ih2 : Root (P.set r (z : Int)) z q := by
          cases ih with
          | here h => rw [getD_set_of hr, if_neg (by omega), h2] at h; omega
          | @up _ y2 _ h hl2 hq2 =>
            rw [getD_set_of hr, if_neg (by omega), h2] at h
            obtain rfl : y2 = z := by omega
            exact hq2
        exact .up (y := z) (by rw [getD_set_of hr, if_pos rfl]) (by omega) ih2
    · exact .up (by rw [getD_set_of hr, if_neg e]; exact hx) hl ih
end Go.Proofs.Ct
namespace Go.Proofs
open Go.RowKit Go.Shelf Go.Proofs.Ct Go.Maps
theorem alive198_any (K : Nat → Prop) (T : TypeId) (ex : List Value) (bl cs : Nat → Nat) (base b wd lim r : Nat) (w : World) (f : FS) (hS : StFB K T ex bl cs base b wd lim w f) (hr : r < f.s.t.length) :
    Calls Try.prog 198 #[.pointer (some ⟨b, 0, none⟩), .int .i64 (r : Int)] w fun e w' => e = .returned (.bool (decide (f.s.rp r = r))) ∧ w' = w := by
  obtain ⟨hb, P, vr, vp, vq, vk, hB, hC, -⟩ := hS
  obtain ⟨gp, cp, rfl, -, -, hcc, -⟩ := ownI_cell hC.par (by rw [hC.len]; omega)
  have hck := hcc r (by rw [hC.len]; exact hr)
  obtain ⟨y, hy, -, -, hyi⟩ := (hC.root.root r hr).parent
  rw [hy] at hck
  obtain ⟨-, -, -, c3, -⟩ := hB.cells
  rw [hC.len] at c3
  have hr0 : (0 : Int) ≤ (r : Int) := Int.natCast_nonneg _
  have hrI : (r : Int) < (f.s.t.length : Int) := by omega
  have HYI := Lib.hid hyi
  clear hB hC hcc hy hyi
  by_cases h : y = r
  · have HD : Hid (decide (f.s.rp r = r) = true) := Lib.hid (decide_eq_true (HYI.out.1 h))
    have d1 : ((y : Int) == (r : Int)) = true := by rw [h]; simp
    clear h
    generalize decide (f.s.rp r = r) = x at *
    go_enter Try.func198, Try.ntmps198
    go_wp2_with fail
    go_ret
    exact ⟨ret_bool HD.out.symm, (by first | trivial | rfl)⟩
  · have HD : Hid (decide (f.s.rp r = r) = false) := Lib.hid (decide_eq_false fun h' => h (HYI.out.2 h'))
    have d1 : ((y : Int) == (r : Int)) = false := by rw [beq_eq_false_iff_ne]; omega
    clear h
    generalize decide (f.s.rp r = r) = x at *
    go_enter Try.func198, Try.ntmps198
    go_wp2_with fail
    go_ret
    exact ⟨ret_bool HD.out.symm, (by first | trivial | rfl)⟩
theorem StFB.below {K : Nat → Prop} {T : TypeId} {ex : List Value} {bl cs : Nat → Nat} {base b wd lim : Nat} {w w' : World} {f : FS} (hS : StFB K T ex bl cs base b wd lim w f) (h : Below w.heap.size w w') : StFB K T ex bl cs base b wd lim w' f := by
  obtain ⟨hb, P, vr, vp, vq, vk, hB, hC, hK, hF⟩ := hS
  exact ⟨hb, P, vr, vp, vq, vk, hB.below h, hC.below h, owns_below hK h, hF.mono h.size⟩
theorem StFB.half {K : Nat → Prop} {T : TypeId} {ex : List Value} {bl cs : Nat → Nat} {base b wd lim : Nat} {w : World} {f : FS} (hT : TyF T) (hS : StFB K T ex bl cs base b wd lim w f) {r : Nat} (hr : r < f.s.t.length) (hne : f.s.rp r ≠ r) :
    ∃ gp cp y z, w.cell? ⟨b, 3, none⟩ = some (.slice (some ⟨gp, 0, none⟩) f.s.t.length cp) ∧ w.cell? ⟨gp, r, none⟩ = some (.int .i64 ((y : Nat) : Int)) ∧ w.cell? ⟨gp, y, none⟩ = some (.int .i64 ((z : Nat) : Int)) ∧ w.frozen? ⟨gp, r, none⟩ = false ∧ y < r ∧ z ≤ y ∧ f.s.rp z = f.s.rp r ∧
      StFB K T ex bl cs base b wd lim (w.setCell ⟨gp, r, none⟩ (.int .i64 (z : Int))) f ∧ Keeps base K w (w.setCell ⟨gp, r, none⟩ (.int .i64 (z : Int))) ∧ gp ≠ b := by
  obtain ⟨hb, P, vr, vp, vq, vk, hB, hC, hK, hF⟩ := hS
  have hPl := hC.len
  obtain ⟨gp, cp, rfl, hg1, hg2, hcc, hfz⟩ := ownI_cell hC.par (by rw [hC.len]; omega)
  obtain ⟨y, hy, hyx, hyr, hyi⟩ := (hC.root.root r hr).parent
  have hyl : y < r := by
    rcases Nat.lt_or_ge y r with h | h
    · exact h
    · exact absurd (hyi.1 (by omega)) hne
  obtain ⟨z, hz, hzy, hzr, -⟩ := (hC.root.root y (by omega)).parent
  have hry : f.s.rp y = f.s.rp r := (hC.root.root y (by omega)).unique hyr
  have hrz : f.s.rp z = f.s.rp y := (hC.root.root z (by omega)).unique hzr
  have c1 := hcc r (by omega)
  have c2 := hcc y (by omega)
  rw [hy] at c1
  rw [hz] at c2
  obtain ⟨-, Cp, hCp⟩ := owns_block hC.par gp rfl
  have hR : Roots (P.set r (z : Int)) f.s := ⟨by rw [List.length_set]; exact hPl, fun x hx => Root.skip (by omega) hy hyl hz hzy (hC.root.root x hx)⟩
  have hC2 := hC.setP (g := gp) rfl (by omega) (z : Int) (s' := f.s) rfl rfl hR
  have hB2 := hB.other (g := gp) ⟨Cp, hCp⟩ (Ne.symm hT.a) r (.int .i64 (z : Int))
  have hK2 := hK.other hCp (by decide) r (.int .i64 (z : Int))
  refine ⟨gp, cp, y, z, by rw [← hPl]; exact hB.cells.2.2.2.1, c1, c2, hfz r, hyl, hzy, by omega, ⟨hb, _, _, _, _, _, hB2, hC2, hK2, hF.mono (by simp)⟩, (Keeps.refl base K w).setCell hg1 (hF.p gp rfl) _, fun e => ?_⟩
  subst e
  rw [hB.box] at hCp
  cases hCp
  exact hT.a rfl
set_option maxRecDepth 100000 in
set_option maxHeartbeats 1000000 in
theorem top224_any (K : Nat → Prop) (T : TypeId) (ex : List Value) (bl cs : Nat → Nat) (base b wd lim c : Nat) (w : World) (f : FS) (hT : TyF T) (hS : StFB K T ex bl cs base b wd lim w f) (hc : c < f.s.t.length) (hn : f.s.t.length ≤ 1000000) :
    Calls Try.prog 224 #[.pointer (some ⟨b, 0, none⟩), .int .i64 (c : Int)] w fun e w' => e = .returned (.int .i64 (f.s.rp c : Int)) ∧ StFB K T ex bl cs base b wd lim w' f ∧ Keeps base K w w' := by
  have HS := Lib.hid hS
  have HT := Lib.hid hT
  obtain ⟨q, hq⟩ : ∃ q, f.s.rp c = q := ⟨_, rfl⟩
  have HQ := Lib.hid hq
  rw [hq]
  have hn0 : (f.s.t.length : Int) ≤ 1000000 := by omega
  clear hS hT hq
  go_enter Try.func224, Try.ntmps224
  go_wp2_with fail
  go_loopw [1] (fun i wr => ∃ r : Nat, i = .int .i64 r ∧ r < f.s.t.length ∧ Hid (f.s.rp r = q) ∧ Hid (StFB K T ex bl cs base b wd lim wr f ∧ Keeps base K w wr)) (fun i _ => (intOf i).toNat)
  case atStart => exact ⟨c, rfl, hc, HQ, Lib.hid ⟨HS.out, Keeps.refl _ _ _⟩⟩
  case round =>
    obtain ⟨r, rfl, hr, HR, HW⟩ := hrel
    have hr0 : (0 : Int) ≤ (r : Int) := Int.natCast_nonneg _
    have hrI : (r : Int) < (f.s.t.length : Int) := by omega
    have HAL := Lib.hid (alive198_any K T ex bl cs base b wd lim r wr f HW.out.1 hr)
    by_cases hl : f.s.rp r = r
    · have hD : decide (f.s.rp r = r) = true := by simpa using hl
      rw [hD] at HAL
      have HE : Hid (q = r) := Lib.hid (HR.out.symm.trans hl)
      clear hD hl HR
      go_wp2_with (go_at_call 198; (refine HAL.out.mono ?_); rintro e w1 ⟨rfl, rfl⟩)
      go_ret
      exact ⟨ret_int (by rw [HE.out]), HW.out⟩
    · have hD : decide (f.s.rp r = r) = false := by simpa using hl
      rw [hD] at HAL
      obtain ⟨gp, cp, y, z, c3, c1, c2, hf, hy, hz, hzr, hst, hbe, hgb⟩ := HW.out.1.half HT.out hr hl
      have HZR : Hid (f.s.rp z = q) := Lib.hid (hzr.trans HR.out)
      have HST := Lib.hid hst
      have HBE := Lib.hid (HW.out.2.trans hbe)
      have hy0 : (0 : Int) ≤ (y : Int) := Int.natCast_nonneg _
      have hz0 : (0 : Int) ≤ (z : Int) := Int.natCast_nonneg _
      have hyI : (y : Int) < (f.s.t.length : Int) := by omega
      clear hD hl HR hzr hst hbe
      go_wp2_with (go_at_call 198; (refine HAL.out.mono ?_); rintro e w1 ⟨rfl, rfl⟩)
      go_still_tail 19, (by kernel_rfl)
      go_wp2_with fail
      exact ⟨⟨z, rfl, by omega, HZR, Lib.hid ⟨HST.out.below (Below.refl _ _).drew, HBE.out.drew⟩⟩, by simp [intOf]; omega⟩
end Go.Proofs
namespace Go.Proofs
open Go.RowKit Go.Shelf Go.Proofs.Ct Go.Maps
theorem CoreM.ne_boxF {T : TypeId} {ex : List Value} {bl cs : Nat → Nat} {base b wd lim : Nat} {w : World} {s s' : St} {P : List Int} {vr vp vq v1 v2 v3 v4 : Value} (hT : TyF T) (h : CoreM base w s P vr vp vq bl cs) (hB : BoxF T ex b wd lim w s' v1 v2 v3 v4) : vp.ownBlock ≠ some b ∧ vq.ownBlock ≠ some b ∧ vr.ownBlock ≠ some b ∧ ∀ i, i < s.t.length → bl i ≠ b := by
  refine ⟨fun e => ?_, fun e => ?_, fun e => ?_, fun i hi e => ?_⟩
  · obtain ⟨-, C, hC⟩ := owns_block h.par b e
    rw [hB.box] at hC
    cases hC
    exact hT.a rfl
  · obtain ⟨-, C, hC⟩ := owns_block h.que b e
    rw [hB.box] at hC
    cases hC
    exact hT.a rfl
  · obtain ⟨-, C, hC⟩ := owns_block h.out b e
    rw [hB.box] at hC
    cases hC
    exact hT.b rfl
  · obtain ⟨-, ⟨C, hC, -⟩, -⟩ := h.row i hi
    rw [e, hB.box] at hC
    cases hC
    exact hT.a rfl
theorem OwnC.ne_boxF {T : TypeId} {ex : List Value} {base b wd lim : Nat} {w : World} {s' : St} {ps : List (Nat × Nat)} {v v1 v2 v3 v4 : Value} (hT : TyF T) (h : OwnC base w v ps) (hB : BoxF T ex b wd lim w s' v1 v2 v3 v4) : v.ownBlock ≠ some b := fun e => by
  obtain ⟨-, C, hC⟩ := owns_block2 h b e
  rw [hB.box] at hC
  cases hC
  exact hT.c rfl
theorem CoreM.pushQ_new {base : Nat} {w : World} {s : St} {P : List Int} {vr vp vq : Value} {bl cs : Nat → Nat} (h : CoreM base w s P vr vp vq bl cs) (hbw : base ≤ w.heap.size) {x : Nat} (hl : s.q.length ≤ 1000000) {A : Option Addr} {c n : Nat} {w4 : World} (hrun : (Builtin.append_ #[24, 24] 24 #[vq, .slice (some ⟨w.heap.size, 0, none⟩) 1 1]).run Try.prog (w.alloc (.cells #[.int .i64 (x : Int)] 3)) = .ok (.slice A n c) w4) : ∀ r, (Value.slice A n c).ownBlock = some r → vq.ownBlock = some r ∨ w.heap.size ≤ r := by
  obtain ⟨A', c', w', hr, -, -, hw⟩ := push_int 24 24 Try.underlying24 w base vq (nats s.q) h.que (x : Int) (by rw [length_nats]; omega) hbw
  rw [hrun] at hr
  injection hr with e1 e2
  rw [e1]
  intro r hr'
  rcases hw with hw | ⟨r', h1, h2⟩
  · exact .inl (by rw [← hw]; exact hr')
  · rw [hr'] at h1
    cases h1
    exact .inr h2
theorem merge_memF {K : Nat → Prop} {T : TypeId} {ex : List Value} {bl cs : Nat → Nat} {g base b wd lim x y : Nat} {w : World} {f : FS} {P : List Int} {vr vp vq vk : Value} (hT : TyF T) (hI : Inv g f.s) (hb : base ≤ b) (hbw : base ≤ w.heap.size) (hB : BoxF T ex b wd lim w f.s vr vp vq vk) (hC : CoreM base w f.s P vr vp vq bl cs) (hK : OwnC base w vk f.k) (hF : Free K w b vr vp vq vk bl f.s.t.length) (hx : x < f.s.t.length) (hy : y < f.s.t.length) (hne : f.s.rp x ≠ f.s.rp y) (hq : f.s.q.length ≤ 1000000)
    (hi lo : Nat) (hhi : hi = max (f.s.rp x) (f.s.rp y)) (hlo : lo = min (f.s.rp x) (f.s.rp y)) :
    ∃ gp cp, vp = .slice (some ⟨gp, 0, none⟩) f.s.t.length cp ∧ w.cell? ⟨gp, hi, none⟩ = some (.int .i64 (P.getD hi 0)) ∧ w.frozen? ⟨gp, hi, none⟩ = false ∧ hi < f.s.t.length ∧
      (w.setCell ⟨gp, hi, none⟩ (.int .i64 (lo : Int))).cell? ⟨b, 4, none⟩ = some vq ∧ ∃ A c w4, (Builtin.append_ #[24, 24] 24 #[vq, .slice (some ⟨w.heap.size, 0, none⟩) 1 1]).run Try.prog ((w.setCell ⟨gp, hi, none⟩ (.int .i64 (lo : Int))).alloc (.cells #[.int .i64 (hi : Int)] 3)) = .ok (.slice A (f.s.q.length + 1) c) w4 ∧
        w4.cell? ⟨b, 4, none⟩ = some vq ∧ w4.frozen? ⟨b, 4, none⟩ = false ∧ (w4.setCell ⟨b, 4, none⟩ (.slice A (f.s.q.length + 1) c)).cell? ⟨b, 6, none⟩ = some (.int .i64 f.s.live) ∧ (w4.setCell ⟨b, 4, none⟩ (.slice A (f.s.q.length + 1) c)).frozen? ⟨b, 6, none⟩ = false ∧
        StFB K T ex bl cs base b wd lim ((w4.setCell ⟨b, 4, none⟩ (.slice A (f.s.q.length + 1) c)).setCell ⟨b, 6, none⟩ (.int .i64 (f.s.live - 1))) ⟨mergeS f.s x y, f.k⟩ ∧ Keeps base K w ((w4.setCell ⟨b, 4, none⟩ (.slice A (f.s.q.length + 1) c)).setCell ⟨b, 6, none⟩ (.int .i64 (f.s.live - 1))) := by
  obtain ⟨s, k⟩ := f
  simp only at *
  have hR := hC.root.merge hI hx hy hne
  rw [← hhi, ← hlo] at hR
  have hmx : hi < s.t.length := by have := hI.rlt hx; have := hI.rlt hy; omega
  obtain ⟨gp, cp, rfl, hg1, -, hcc, hfz⟩ := ownI_cell hC.par (by rw [hC.len]; omega)
  rw [hC.len] at hcc
  obtain ⟨-, Cp, hCp⟩ := owns_block hC.par gp rfl
  have hC3 := hC.setP (g := gp) rfl (by rw [hC.len]; exact hmx) (lo : Int) (s' := { mergeS s x y with q := s.q }) (t_merge s x y) rfl (hR.of_rep rfl rfl)
  have hB3 := hB.other (g := gp) ⟨Cp, hCp⟩ (Ne.symm hT.a) hi (.int .i64 (lo : Int))
  have hK3 := hK.other hCp (by decide) hi (.int .i64 (lo : Int))
  obtain ⟨-, -, -, -, d4, -, -, -⟩ := hB3.cells
  obtain ⟨A, c, w4, hrun, hC4, hgr⟩ := hC3.pushQ (by rw [World.size_setCell]; exact hbw) hi hq
  have hnew := hC3.pushQ_new (by rw [World.size_setCell]; exact hbw) hq hrun
  rw [World.size_setCell] at hrun hnew
  obtain ⟨-, hnq, -, -⟩ := hC3.ne_boxF hT hB3
  have hB4 := hB3.grown hgr hnq
  have hK4 := hK3.grown hgr fun r hr => by
    obtain ⟨-, C, hC'⟩ := owns_block hC3.que r hr
    exact ⟨C, 3, hC', by decide⟩
  obtain ⟨-, -, -, -, e4, -, -, -⟩ := hB4.cells
  have hB5 := hB4.upd4 (.slice A (s.q.length + 1) c) rfl rfl
  obtain ⟨-, -, -, -, -, -, f5, -⟩ := hB5.cells
  have hml : (mergeS s x y).live = s.live - 1 := by unfold mergeS; rw [if_neg hne]
  have hB6 := hB5.upd6 (s' := mergeS s x y) (z := s.live - 1) hml (most_merge s x y)
  have hC6 := (hC4.other hB4.box hT.a hT.b 4 (.slice A (s.q.length + 1) c)).other hB5.box hT.a hT.b 6 (.int .i64 (s.live - 1))
  have hK6 := (hK4.other hB4.box hT.c 4 (.slice A (s.q.length + 1) c)).other hB5.box hT.c 6 (.int .i64 (s.live - 1))
  have hse : ({ ({ mergeS s x y with q := s.q } : St) with q := s.q ++ [hi] } : St) = mergeS s x y := by
    unfold mergeS
    rw [if_neg hne, ← hhi]
  have hpl : P.length = s.t.length := hC.len
  refine ⟨gp, cp, by rw [hpl], hcc hi hmx, hfz hi, hmx, d4, A, c, w4, hrun, e4, hB4.frozen 4, f5, hB5.frozen 6, ⟨hb, P.set hi (lo : Int), _, _, _, _, hB6, ?_, hK6, ?_⟩, ?_⟩
  · have := hC6
    simp only at this
    rw [hse] at this
    exact this
  · have hsz : w.heap.size ≤ ((w4.setCell ⟨b, 4, none⟩ (.slice A (s.q.length + 1) c)).setCell ⟨b, 6, none⟩ (.int .i64 (s.live - 1))).heap.size := by
      have := hgr.size
      simp only [World.size_setCell] at this ⊢
      exact this
    refine ⟨fun k hk => Nat.lt_of_lt_of_le (hF.lt k hk) hsz, hF.box, hF.r, hF.p, fun k hk hk' => ?_, hF.k, fun i hi => hF.row i (by rwa [t_merge] at hi)⟩
    rcases hnew k hk with h | h
    · exact hF.q k h hk'
    · exact absurd (hF.lt k hk') (by omega)
  · have h1 : Keeps base K w (w.setCell ⟨gp, hi, none⟩ (.int .i64 (lo : Int))) := (Keeps.refl base K w).setCell hg1 (hF.p gp rfl) _
    have h2 := h1.grown hgr (by rw [World.size_setCell]; exact hbw) (fun r hr => (owns_block hC.que r hr).1) (fun k hk => by rw [World.size_setCell]; exact hF.lt k hk) (fun r hr => hF.q r hr)
    exact (h2.setCell hb hF.box _).setCell hb hF.box _
set_option maxRecDepth 100000 in
set_option maxHeartbeats 1000000 in
theorem merge223_any (K : Nat → Prop) (T : TypeId) (ex : List Value) (bl cs : Nat → Nat) (g base b wd lim x y : Nat) (w : World) (f : FS) (hT : TyF T) (hI : Inv g f.s) (hS : StFB K T ex bl cs base b wd lim w f) (hbw : base ≤ w.heap.size) (hx : x < f.s.t.length) (hy : y < f.s.t.length) (hn : f.s.t.length ≤ 1000000) (hq : f.s.q.length ≤ 1000000) (hl0 : -1000000 ≤ f.s.live) (hl1 : f.s.live ≤ 1000000) :
    Calls Try.prog 223 #[.pointer (some ⟨b, 0, none⟩), .int .i64 (x : Int), .int .i64 (y : Int)] w fun e w' => e = .returned (.tuple #[]) ∧ StFB K T ex bl cs base b wd lim w' ⟨mergeS f.s x y, f.k⟩ ∧ Keeps base K w w' := by
  have HX := Lib.hid fun W (h : StFB K T ex bl cs base b wd lim W f) => top224_any K T ex bl cs base b wd lim x W f hT h hx hn
  have HY := Lib.hid fun W (h : StFB K T ex bl cs base b wd lim W f) => top224_any K T ex bl cs base b wd lim y W f hT h hy hn
  have HT := Lib.hid hT
  have HSE : Hid ((⟨f.s, f.k⟩ : FS) = f) := Lib.hid rfl
  have HS := Lib.hid hS
  have HI := Lib.hid hI
  have hrx := hI.rlt hx
  have hry := hI.rlt hy
  have HBW := Lib.hid hbw
  clear hS hI hbw hT
  by_cases hne : f.s.rp x = f.s.rp y
  · have HM : Hid (mergeS f.s x y = f.s) := Lib.hid (by unfold mergeS; rw [if_pos hne])
    generalize mergeS f.s x y = s' at *
    generalize f.s.rp x = a at *
    generalize f.s.rp y = c at *
    subst hne
    go_enter Try.func223, Try.ntmps223
    go_wp2_with (first
      | (go_at_call 224; (with_reducible refine (HX.out _ HS.out).mono ?_); rintro e w1 ⟨rfl, hs1, hb1⟩
         have HS1 := Lib.hid hs1
         have HB1 := Lib.hid hb1
         clear hs1 hb1 HX)
      | (go_at_call 224; (with_reducible refine (HY.out _ HS1.out).mono ?_); rintro e w2 ⟨rfl, hs2, hb2⟩
         have HS2 := Lib.hid hs2
         have HB2 := Lib.hid hb2
         clear hs2 hb2))
    try simp only [Exit.inBlock, Exit.then]
    refine bodyPost_ret (results_none rfl _ _ _) rfl ?_
    exact ⟨rfl, by rw [HM.out]; exact HS2.out, HB1.out.trans HB2.out⟩
  · have HM : Hid (∀ W, StFB K T ex bl cs base b wd lim W f → base ≤ W.heap.size → ∃ P vr vp vq vk, BoxF T ex b wd lim W f.s vr vp vq vk ∧ CoreM base W f.s P vr vp vq bl cs ∧ OwnC base W vk f.k ∧ Free K W b vr vp vq vk bl f.s.t.length) := Lib.hid fun W h _ => by
      obtain ⟨-, h⟩ := h
      exact h
    obtain ⟨hi, hhi⟩ : ∃ hi, hi = max (f.s.rp x) (f.s.rp y) := ⟨_, rfl⟩
    obtain ⟨lo, hlo⟩ : ∃ lo, lo = min (f.s.rp x) (f.s.rp y) := ⟨_, rfl⟩
    have HG := Lib.hid fun (W : World) (P : List Int) (vr vp vq vk : Value) (hb : base ≤ b) (hbw : base ≤ W.heap.size) (hB : BoxF T ex b wd lim W f.s vr vp vq vk) (hC : CoreM base W f.s P vr vp vq bl cs) (hK : OwnC base W vk f.k) (hF : Free K W b vr vp vq vk bl f.s.t.length) =>
      merge_memF HT.out HI.out hb hbw hB hC hK hF hx hy hne hq hi lo hhi hlo
    generalize mergeS f.s x y = s' at *
    generalize f.s.rp x = u at *
    generalize f.s.rp y = v at *
    have hu0 : (0 : Int) ≤ (u : Int) := Int.natCast_nonneg _
    have hv0 : (0 : Int) ≤ (v : Int) := Int.natCast_nonneg _
    have hdne : ((u : Int) == (v : Int)) = false := by rw [beq_eq_false_iff_ne]; omega
    have hq0 : (f.s.q.length : Int) ≤ 1000000 := by omega
    rcases Nat.lt_or_gt_of_ne hne with hlt | hlt
    · obtain rfl : hi = v := by omega
      obtain rfl : lo = u := by omega
      have hl1 : (lo : Int) < (hi : Int) := by omega
      have hl2 : ¬ (hi : Int) < (lo : Int) := by omega
      clear hhi hlo hlt hne
      go_enter Try.func223, Try.ntmps223
      go_wp2_with (first
        | (go_at_call 224; (with_reducible refine (HX.out _ HS.out).mono ?_); rintro e w1 ⟨rfl, hs1, hb1⟩
           have HS1 := Lib.hid hs1
           have HB1 := Lib.hid hb1
           clear hs1 hb1 HX)
        | (go_at_call 224; (with_reducible refine (HY.out _ HS1.out).mono ?_); rintro e w2 ⟨rfl, hs2, hb2⟩
           have HS2 := Lib.hid hs2
           have HB2 := Lib.hid hb2
           obtain ⟨hb, P, vr, vp, vq, vk, h1, h2, h3, h4⟩ := hs2
           obtain ⟨-, -, -, c3, -, -, -, -⟩ := h1.cells
           obtain ⟨gp, cp, rfl, c5, c6, c7, c8, A, c, w4, hrun, c9, c10, c11, c12, hst, hbe⟩ := HG.out _ _ _ _ _ _ hb (Nat.le_trans HBW.out (HB1.out.trans hb2).size) h1 h2 h3 h4
           have HAPP := Lib.hid hrun
           have HST := Lib.hid hst
           have HBE := Lib.hid hbe
           clear h1 h2 h3 h4 hrun hst hbe hb2 HG)
        | ((with_reducible refine wpList_sel 35 ?_); refine wpList_val rfl (r_app (.tmp 30) (.tmp 34) 24 rfl rfl rfl HAPP.out) ?_))
      go_end0
      exact ⟨rfl, HST.out, HB1.out.trans (HB2.out.trans HBE.out)⟩
    · obtain rfl : hi = u := by omega
      obtain rfl : lo = v := by omega
      have hl1 : (lo : Int) < (hi : Int) := by omega
      have hl2 : ¬ (hi : Int) < (lo : Int) := by omega
      clear hhi hlo hlt hne
      go_enter Try.func223, Try.ntmps223
      go_wp2_with (first
        | (go_at_call 224; (with_reducible refine (HX.out _ HS.out).mono ?_); rintro e w1 ⟨rfl, hs1, hb1⟩
           have HS1 := Lib.hid hs1
           have HB1 := Lib.hid hb1
           clear hs1 hb1 HX)
        | (go_at_call 224; (with_reducible refine (HY.out _ HS1.out).mono ?_); rintro e w2 ⟨rfl, hs2, hb2⟩
           have HS2 := Lib.hid hs2
           have HB2 := Lib.hid hb2
           obtain ⟨hb, P, vr, vp, vq, vk, h1, h2, h3, h4⟩ := hs2
           obtain ⟨-, -, -, c3, -, -, -, -⟩ := h1.cells
           obtain ⟨gp, cp, rfl, c5, c6, c7, c8, A, c, w4, hrun, c9, c10, c11, c12, hst, hbe⟩ := HG.out _ _ _ _ _ _ hb (Nat.le_trans HBW.out (HB1.out.trans hb2).size) h1 h2 h3 h4
           have HAPP := Lib.hid hrun
           have HST := Lib.hid hst
           have HBE := Lib.hid hbe
           clear h1 h2 h3 h4 hrun hst hbe hb2 HG)
        | ((with_reducible refine wpList_sel 35 ?_); refine wpList_val rfl (r_app (.tmp 30) (.tmp 34) 24 rfl rfl rfl HAPP.out) ?_))
      go_end0
      exact ⟨rfl, HST.out, HB1.out.trans (HB2.out.trans HBE.out)⟩
end Go.Proofs
namespace Go.Proofs
open Go.RowKit Go.Shelf Go.Proofs.Ct Go.Maps
theorem StFB.at_ {K : Nat → Prop} {T : TypeId} {ex : List Value} {bl cs : Nat → Nat} {g base b wd lim : Nat} {w : World} {f : FS} (hI : Inv g f.s) (hS : StFB K T ex bl cs base b wd lim w f) {r c : Nat} (hr : r < f.s.t.length) (hc : c < 2 * g) : ∃ gr cr, w.cell? ⟨b, 2, none⟩ = some (.slice (some ⟨gr, 0, none⟩) f.s.t.length cr) ∧ w.cell? ⟨gr, r, none⟩ = some (.slice (some ⟨bl r, 0, none⟩) (2 * g) (cs r)) ∧ w.cell? ⟨bl r, c, none⟩ = some (.int .i64 (f.s.t.at r c)) := by
  obtain ⟨-, P, vr, vp, vq, vk, hB, hC, -⟩ := hS
  obtain ⟨gr, cr, rfl, r1, r2, r3⟩ := hC.at_ hr (c := c) (by rw [hI.len r hr]; exact hc)
  rw [hI.len r hr] at r1
  exact ⟨gr, cr, hB.cells.2.2.1, r1, r2⟩
theorem StFB.width {K : Nat → Prop} {T : TypeId} {ex : List Value} {bl cs : Nat → Nat} {base b wd lim : Nat} {w : World} {f : FS} (hS : StFB K T ex bl cs base b wd lim w f) : w.cell? ⟨b, 0, none⟩ = some (.int .i64 (wd : Int)) ∧ w.cell? ⟨b, 1, none⟩ = some (.int .i64 (lim : Int)) := by
  obtain ⟨-, P, vr, vp, vq, vk, hB, -⟩ := hS
  exact ⟨hB.cells.1, hB.cells.2.1⟩
theorem StFB.que {K : Nat → Prop} {T : TypeId} {ex : List Value} {bl cs : Nat → Nat} {base b wd lim : Nat} {w : World} {f : FS} (hS : StFB K T ex bl cs base b wd lim w f) : ∃ A c, w.cell? ⟨b, 4, none⟩ = some (.slice A f.s.q.length c) ∧ w.frozen? ⟨b, 4, none⟩ = false ∧ (0 < f.s.q.length → ∃ gq, A = some ⟨gq, 0, none⟩ ∧ ∀ k, k < f.s.q.length → w.cell? ⟨gq, k, none⟩ = some (.int .i64 (f.s.q.getD k 0 : Int))) := by
  obtain ⟨hb, P, vr, vp, vq, vk, hB, hC, hK, hF⟩ := hS
  obtain ⟨A, c, rfl⟩ : ∃ A c, vq = .slice A f.s.q.length c := by
    rcases hC.que.2 with ⟨h, h0⟩ | ⟨gq, cap, cur, h, -⟩
    · rw [length_nats] at h0; exact ⟨none, 0, by rw [h0]; exact h⟩
    · rw [length_nats] at h; exact ⟨_, cap, h⟩
  refine ⟨A, c, hB.cells.2.2.2.2.1, hB.frozen 4, fun h0 => ?_⟩
  obtain ⟨gq, cq, e, -, -, hcc, -⟩ := ownI_cell hC.que (by rw [length_nats]; exact h0)
  rw [length_nats] at e hcc
  injection e with e1 e2 e3
  exact ⟨gq, e1, fun k hk => by have := hcc k hk; rwa [nats_getD] at this⟩
theorem StFB.noque {K : Nat → Prop} {T : TypeId} {ex : List Value} {bl cs : Nat → Nat} {base b wd lim : Nat} {w : World} {f : FS} (hT : TyF T) (hS : StFB K T ex bl cs base b wd lim w f) : StFB K T ex bl cs base b wd lim (w.setCell ⟨b, 4, none⟩ (.slice none 0 0)) ⟨{ f.s with q := [] }, f.k⟩ := by
  obtain ⟨hb, P, vr, vp, vq, vk, hB, hC, hK, hF⟩ := hS
  have hC0 : CoreM base w { f.s with q := [] } P vr vp (.slice none 0 0) bl cs :=
    ⟨hC.out, hC.row, hC.inj, hC.par, World.ownsRow_nil _ _ _ _, hC.sepP, fun i hi e => (by cases e), fun r hr e => (by cases e), hC.root.of_rep rfl rfl⟩
  exact ⟨hb, P, vr, vp, _, vk, hB.upd4 (s' := { f.s with q := [] }) _ rfl rfl, hC0.other hB.box hT.a hT.b 4 _, hK.other hB.box hT.c 4 _, ⟨fun k hk => by rw [World.size_setCell]; exact hF.lt k hk, hF.box, hF.r, hF.p, fun k e => (by cases e), hF.k, hF.row⟩⟩
theorem StFB.cut {K : Nat → Prop} {T : TypeId} {ex : List Value} {bl cs : Nat → Nat} {g base b wd lim : Nat} {w : World} {f : FS} (hT : TyF T) (hI : Inv g f.s) (hS : StFB K T ex bl cs base b wd lim w f) {e c : Nat} (he : e < f.s.t.length) (hc : c < 2 * g) (_hd : 0 ≤ f.s.t.at e c) :
    ∃ gr cr be ke bd kd x2, w.cell? ⟨b, 2, none⟩ = some (.slice (some ⟨gr, 0, none⟩) f.s.t.length cr) ∧ w.cell? ⟨gr, e, none⟩ = some (.slice (some ⟨be, 0, none⟩) (2 * g) ke) ∧ w.cell? ⟨gr, (f.s.t.at e c).toNat, none⟩ = some (.slice (some ⟨bd, 0, none⟩) (2 * g) kd) ∧
      w.cell? ⟨be, c, none⟩ = some (.int .i64 (f.s.t.at e c)) ∧ w.frozen? ⟨be, c, none⟩ = false ∧
      (w.setCell ⟨be, c, none⟩ (.int .i64 (-1))).cell? ⟨b, 2, none⟩ = some (.slice (some ⟨gr, 0, none⟩) f.s.t.length cr) ∧ (w.setCell ⟨be, c, none⟩ (.int .i64 (-1))).cell? ⟨gr, (f.s.t.at e c).toNat, none⟩ = some (.slice (some ⟨bd, 0, none⟩) (2 * g) kd) ∧
      (w.setCell ⟨be, c, none⟩ (.int .i64 (-1))).cell? ⟨bd, flp c, none⟩ = some (.int .i64 x2) ∧ (w.setCell ⟨be, c, none⟩ (.int .i64 (-1))).frozen? ⟨bd, flp c, none⟩ = false ∧
      StFB K T ex bl cs base b wd lim ((w.setCell ⟨be, c, none⟩ (.int .i64 (-1))).setCell ⟨bd, flp c, none⟩ (.int .i64 (-1))) ⟨{ f.s with t := cutT f.s.t e c }, f.k⟩ ∧ Keeps base K w ((w.setCell ⟨be, c, none⟩ (.int .i64 (-1))).setCell ⟨bd, flp c, none⟩ (.int .i64 (-1))) := by
  obtain ⟨s, k⟩ := f
  simp only at *
  obtain ⟨hb, P, vr, vp, vq, vk, hB, hC, hK, hF⟩ := hS
  simp only at *
  have hdl : (s.t.at e c).toNat < s.t.length := by have := (hI.bd e he c hc).2; omega
  have hle := hI.len e he
  have hld := hI.len _ hdl
  have hf := flp_lt2 hc
  obtain ⟨gr, cr, rfl, r1, r2, r3⟩ := hC.at_ he (c := c) (by omega)
  obtain ⟨gr', cr', e', p1, p2, p3⟩ := hC.at_ hdl (c := flp c) (by omega)
  injection e' with e1 e2 e3
  injection e1 with e1
  injection e1 with e1
  subst e1
  have hC1 := hC.set he (c := c) (by omega) (-1)
  have hbe := hC.row e he
  obtain ⟨Ce, hCe, -⟩ := id hbe.2.1
  have hB1 := hB.other ⟨Ce, hCe⟩ (Ne.symm hT.a) c (.int .i64 (-1))
  have hK1 := hK.other hCe (by decide) c (.int .i64 (-1))
  have hlen1 : ({ s with t := set2 s.t e c (-1) } : St).t.length = s.t.length := length_set2 _ _ _ _
  obtain ⟨gr', cr', e', q1, q2, q3⟩ := hC1.at_ (r := (s.t.at e c).toNat) (c := flp c) (by rw [hlen1]; exact hdl) (by simp only [rowlen_set2]; omega)
  injection e' with e1 e2 e3
  injection e1 with e1
  injection e1 with e1
  subst e1
  have hC2 := hC1.set (r := (s.t.at e c).toNat) (c := flp c) (by rw [hlen1]; exact hdl) (by simp only [rowlen_set2]; omega) (-1)
  have hbd := hC1.row (s.t.at e c).toNat (by rw [hlen1]; exact hdl)
  obtain ⟨Cd, hCd, -⟩ := id hbd.2.1
  have hB2 := hB1.other ⟨Cd, hCd⟩ (Ne.symm hT.a) (flp c) (.int .i64 (-1))
  have hK2 := hK1.other hCd (by decide) (flp c) (.int .i64 (-1))
  simp only [rowlen_set2] at q1
  rw [hld] at q1 p1
  rw [hle] at r1
  exact ⟨gr, cr, bl e, cs e, bl (s.t.at e c).toNat, cs (s.t.at e c).toNat, _, hB.cells.2.2.1, r1, p1, r2, r3, hB1.cells.2.2.1, q1, q2, q3, ⟨hb, P, _, vp, vq, vk, hB2.of rfl rfl, hC2, hK2, ⟨fun k hk => by rw [World.size_setCell, World.size_setCell]; exact hF.lt k hk, hF.box, hF.r, hF.p, hF.q, hF.k, fun i hi => hF.row i (by rwa [length_cut] at hi)⟩⟩, ((Keeps.refl base K w).setCell hbe.1 (hF.row e he) _).setCell hbd.1 (hF.row _ hdl) _⟩
theorem StFB.join {K : Nat → Prop} {T : TypeId} {ex : List Value} {bl cs : Nat → Nat} {g base b wd lim : Nat} {w : World} {f : FS} (hT : TyF T) (hI : Inv g f.s) (hS : StFB K T ex bl cs base b wd lim w f) (hbw : base ≤ w.heap.size) {u c v : Nat} (hu : u < f.s.t.length) (hv : v < f.s.t.length) (hc : c < 2 * g) (hk : f.k.length ≤ 1000000000000) :
    ∃ gr cr bu ku bv kv x1 x2 A ck A' ck' w3, w.cell? ⟨b, 2, none⟩ = some (.slice (some ⟨gr, 0, none⟩) f.s.t.length cr) ∧ w.cell? ⟨gr, u, none⟩ = some (.slice (some ⟨bu, 0, none⟩) (2 * g) ku) ∧ w.cell? ⟨gr, v, none⟩ = some (.slice (some ⟨bv, 0, none⟩) (2 * g) kv) ∧
      w.cell? ⟨bu, c, none⟩ = some (.int .i64 x1) ∧ w.frozen? ⟨bu, c, none⟩ = false ∧
      (w.setCell ⟨bu, c, none⟩ (.int .i64 (v : Int))).cell? ⟨bv, flp c, none⟩ = some (.int .i64 x2) ∧ (w.setCell ⟨bu, c, none⟩ (.int .i64 (v : Int))).frozen? ⟨bv, flp c, none⟩ = false ∧
      ((w.setCell ⟨bu, c, none⟩ (.int .i64 (v : Int))).setCell ⟨bv, flp c, none⟩ (.int .i64 (u : Int))).cell? ⟨b, 5, none⟩ = some (.slice A f.k.length ck) ∧
      (Builtin.append_ #[98, 98] 98 #[.slice A f.k.length ck, .slice (some ⟨((w.setCell ⟨bu, c, none⟩ (.int .i64 (v : Int))).setCell ⟨bv, flp c, none⟩ (.int .i64 (u : Int))).heap.size, 0, none⟩) 1 1]).run Try.prog (((w.setCell ⟨bu, c, none⟩ (.int .i64 (v : Int))).setCell ⟨bv, flp c, none⟩ (.int .i64 (u : Int))).alloc (.cells #[.int .i64 (u : Int), .int .i64 (c : Int)] 109)) = .ok (.slice A' (f.k.length + 1) ck') w3 ∧
      w3.cell? ⟨b, 5, none⟩ = some (.slice A f.k.length ck) ∧ w3.frozen? ⟨b, 5, none⟩ = false ∧
      StFB K T ex bl cs base b wd lim (w3.setCell ⟨b, 5, none⟩ (.slice A' (f.k.length + 1) ck')) (joinF f u c v) ∧ Keeps base K w (w3.setCell ⟨b, 5, none⟩ (.slice A' (f.k.length + 1) ck')) := by
  obtain ⟨s, k⟩ := f
  simp only at *
  obtain ⟨hb, P, vr, vp, vq, vk, hB, hC, hK, hF⟩ := hS
  simp only at *
  have hlu := hI.len u hu
  have hlv := hI.len v hv
  have hf := flp_lt2 hc
  obtain ⟨gr, cr, rfl, r1, r2, r3⟩ := hC.at_ hu (c := c) (by omega)
  obtain ⟨gr', cr', e', p1, p2, p3⟩ := hC.at_ hv (c := flp c) (by omega)
  injection e' with e1 e2 e3
  injection e1 with e1
  injection e1 with e1
  subst e1
  have hC1 := hC.set hu (c := c) (by omega) (v : Int)
  have hbu := hC.row u hu
  obtain ⟨Cu, hCu, -⟩ := id hbu.2.1
  have hB1 := hB.other ⟨Cu, hCu⟩ (Ne.symm hT.a) c (.int .i64 (v : Int))
  have hK1 := hK.other hCu (by decide) c (.int .i64 (v : Int))
  have hlen1 : ({ s with t := set2 s.t u c (v : Int) } : St).t.length = s.t.length := length_set2 _ _ _ _
  obtain ⟨gr', cr', e', q1, q2, q3⟩ := hC1.at_ (r := v) (c := flp c) (by rw [hlen1]; exact hv) (by simp only [rowlen_set2]; omega)
  have hC2 := hC1.set (r := v) (c := flp c) (by rw [hlen1]; exact hv) (by simp only [rowlen_set2]; omega) (u : Int)
  have hbv := hC1.row v (by rw [hlen1]; exact hv)
  obtain ⟨Cv, hCv, -⟩ := id hbv.2.1
  have hB2 := hB1.other ⟨Cv, hCv⟩ (Ne.symm hT.a) (flp c) (.int .i64 (u : Int))
  have hK2 := hK1.other hCv (by decide) (flp c) (.int .i64 (u : Int))
  have hCJ : CoreM base ((w.setCell ⟨bl u, c, none⟩ (.int .i64 (v : Int))).setCell ⟨bl v, flp c, none⟩ (.int .i64 (u : Int))) (joinS s u c v) P _ vp vq bl cs := hC2
  have hBJ : BoxF T ex b wd lim ((w.setCell ⟨bl u, c, none⟩ (.int .i64 (v : Int))).setCell ⟨bl v, flp c, none⟩ (.int .i64 (u : Int))) (joinS s u c v) _ vp vq vk := hB2.of rfl rfl
  have hz : ((w.setCell ⟨bl u, c, none⟩ (.int .i64 (v : Int))).setCell ⟨bl v, flp c, none⟩ (.int .i64 (u : Int))).heap.size = w.heap.size := by rw [World.size_setCell, World.size_setCell]
  obtain ⟨A, ck, rfl⟩ := owns_form2 hK2
  obtain ⟨A', ck', w3, hrun, hown, hgr, hnew⟩ := push_cc _ base _ k hK2 (u, c) hk (by rw [hz]; exact hbw)
  have hB3 := hBJ.grown hgr (OwnC.ne_boxF hT hK2 hBJ)
  have hC3 := hCJ.keep (w' := w3) fun j C e hj hC' he => hgr.block j (Array.getElem?_eq_some_iff.1 hC').1 fun e' => by
    obtain ⟨-, C2, hC''⟩ := owns_block2 hK2 j e'.symm
    rw [hC'] at hC''
    cases hC''
    rcases he with h | h <;> cases h
  have hB4 := hB3.upd5 (s' := joinS s u c v) (.slice A' (k.length + 1) ck') rfl rfl
  have hC4 := hC3.other hB3.box hT.a hT.b 5 (.slice A' (k.length + 1) ck')
  have hK4 := hown.other hB3.box hT.c 5 (.slice A' (k.length + 1) ck')
  rw [hlu] at r1
  rw [hlv] at p1
  refine ⟨gr, cr, bl u, cs u, bl v, cs v, _, _, A, ck, A', ck', w3, hB.cells.2.2.1, r1, p1, r2, r3, q2, q3, hBJ.cells.2.2.2.2.2.1, hrun, hB3.cells.2.2.2.2.2.1, hB3.frozen 5, ⟨hb, P, _, vp, vq, _, hB4, hC4, hK4, ?_⟩, ?_⟩
  · have hsz : w.heap.size ≤ (w3.setCell ⟨b, 5, none⟩ (.slice A' (k.length + 1) ck')).heap.size := by
      have := hgr.size
      simp only [World.size_setCell] at this ⊢
      exact this
    refine ⟨fun k hk => Nat.lt_of_lt_of_le (hF.lt k hk) hsz, hF.box, hF.r, hF.p, hF.q, fun k hk hk' => ?_, fun i hi => hF.row i (by have e : (joinF (⟨s, k⟩ : FS) u c v).s.t.length = s.t.length := length_join _ _ _ _; omega)⟩
    rcases hnew k hk with h | h
    · exact hF.k k h hk'
    · exact absurd (hF.lt k hk') (by rw [hz] at h; omega)
  have h1 : Keeps base K w ((w.setCell ⟨bl u, c, none⟩ (.int .i64 (v : Int))).setCell ⟨bl v, flp c, none⟩ (.int .i64 (u : Int))) := ((Keeps.refl base K w).setCell hbu.1 (hF.row u hu) _).setCell hbv.1 (hF.row v hv) _
  exact (h1.grown hgr (by rw [hz]; exact hbw) (fun r hr => (owns_block2 hK2 r hr).1) (fun k hk => by rw [hz]; exact hF.lt k hk) (fun r hr => hF.k r hr)).setCell hb hF.box _
theorem fld151_2 (b : Nat) (w : World) : (Instr.fieldAt 151 (.pointer (some ⟨b, 0, none⟩)) 2).run Try.prog w = .ok (.pointer (some ⟨b, 2, none⟩)) w := by kernel_rfl
set_option maxRecDepth 100000 in
set_option maxHeartbeats 1000000 in
theorem set216_any (K : Nat → Prop) (T : TypeId) (ex : List Value) (bl cs : Nat → Nat) (g base b wd lim u c d : Nat) (w : World) (f : FS) (hT : TyF T) (hI : Inv g f.s) (hg : g ≤ 16) (hS : StFB K T ex bl cs base b wd lim w f) (hbw : base ≤ w.heap.size) (hu : u < f.s.t.length) (hv : d < f.s.t.length) (hc : c < 2 * g) (_hn : f.s.t.length ≤ 1000000) (hk : f.k.length ≤ 1000000000000) :
    Calls Try.prog 216 #[.pointer (some ⟨b, 0, none⟩), .int .i64 (u : Int), .int .i64 (c : Int), .int .i64 (d : Int)] w fun e w' => e = .returned (.tuple #[]) ∧ StFB K T ex bl cs base b wd lim w' (joinF f u c d) ∧ Keeps base K w w' := by
  have hdr := (Below.refl w.heap.size w).drew
  have hS' := hS.below hdr
  obtain ⟨gr, cr, bu, ku, bv, kv, x1, x2, A, ck, A', ck', w3, f1, f2, f3, f4, f5, f6, f7, f8, hrun, f9, f10, hst, hbe⟩ := hS'.join hT hI (Nat.le_trans hbw hdr.size) hu hv hc hk
  have HST := Lib.hid hst
  have HBE := Lib.hid ((Keeps.all (K := K) hdr hbw hS.lt).trans hbe)
  have HAPP := Lib.hid hrun
  have hfe := flp_eq c (by omega)
  have hfl := flp_lt2 hc
  have hc0 : (0 : Int) ≤ (c : Int) := Int.natCast_nonneg _
  have hc1 : (c : Int) < ((2 * g : Nat) : Int) := by omega
  have hf0 : (0 : Int) ≤ ((flp c : Nat) : Int) := Int.natCast_nonneg _
  have hf1 : ((flp c : Nat) : Int) < ((2 * g : Nat) : Int) := by omega
  have hu0 : (0 : Int) ≤ (u : Int) := Int.natCast_nonneg _
  have hv0 : (0 : Int) ≤ (d : Int) := Int.natCast_nonneg _
  have hu1 : (u : Int) < (f.s.t.length : Int) := by omega
  have hv1 : (d : Int) < (f.s.t.length : Int) := by omega
  have p1 : w.cell? ⟨b, 2, none⟩ = some (.slice (some ⟨gr, 0, none⟩) f.s.t.length cr) := f1
  have p2 : w.cell? ⟨gr, u, none⟩ = some (.slice (some ⟨bu, 0, none⟩) (2 * g) ku) := f2
  have p3 : w.cell? ⟨gr, d, none⟩ = some (.slice (some ⟨bv, 0, none⟩) (2 * g) kv) := f3
  clear hS hS' hrun hst hbe hdr hI hT
  generalize 2 * g = m at *
  generalize joinF f u c d = f' at *
  go_enter Try.func216, Try.ntmps216
  go_wp2_with fail
  refine (wpIn_wide (n := 3)).1 ?_
  refine wpIn_region_all (by kernel_rfl) 23 rfl (fun i => if i < 20 then some (8 + i) else if i = 20 then none else if i = 21 then some 28 else none) (lex_of (by kernel_rfl)) (fun ls W => W = bif ls 22 then (w.drew.setCell ⟨bu, c, none⟩ (.int .i64 (d : Int))).setCell ⟨bv, flp c, none⟩ (.int .i64 (u : Int)) else bif ls 20 then w.drew.setCell ⟨bu, c, none⟩ (.int .i64 (d : Int)) else w.drew)
    (fun i v _ => v = ([.pointer (some ⟨b, 0, none⟩), .pointer (some ⟨b, 0, none⟩), .pointer (some ⟨b, 2, none⟩), .slice (some ⟨gr, 0, none⟩) f.s.t.length cr, .int .i64 (u : Int), .pointer (some ⟨gr, u, none⟩), .slice (some ⟨bu, 0, none⟩) m ku, .int .i64 (c : Int), .pointer (some ⟨b, 0, none⟩), .pointer (some ⟨b, 0, none⟩), .pointer (some ⟨b, 2, none⟩), .slice (some ⟨gr, 0, none⟩) f.s.t.length cr, .int .i64 (d : Int), .pointer (some ⟨gr, d, none⟩), .slice (some ⟨bv, 0, none⟩) m kv, .int .i64 (c : Int), .int .i64 ((flp c : Nat) : Int), .int .i64 (d : Int), .int .i64 (u : Int), .pointer (some ⟨bu, c, none⟩), undef, .pointer (some ⟨bv, (flp c), none⟩), undef] : List Value).getD i undef) (fun _ _ _ => True) (dm_inj (by kernel_rfl)) (fun _ _ _ _ _ _ _ _ _ h => h) (dm_lt (n := 41) (by kernel_rfl)) rfl ?_ ?_
  · intro ls q o a w2 hq ho hS2 hls hcl hP hpre
    have hcases : q = 0 ∨ q = 1 ∨ q = 2 ∨ q = 3 ∨ q = 4 ∨ q = 5 ∨ q = 6 ∨ q = 7 ∨ q = 8 ∨ q = 9 ∨ q = 10 ∨ q = 11 ∨ q = 12 ∨ q = 13 ∨ q = 14 ∨ q = 15 ∨ q = 16 ∨ q = 17 ∨ q = 18 ∨ q = 19 ∨ q = 20 ∨ q = 21 ∨ q = 22 := by
      have : q < 23 := hq
      omega
    rcases hcases with rfl | rfl | rfl | rfl | rfl | rfl | rfl | rfl | rfl | rfl | rfl | rfl | rfl | rfl | rfl | rfl | rfl | rfl | rfl | rfl | rfl | rfl | rfl
    · obtain rfl := Option.some.inj ho
      exact wpOpIn_of rfl rfl (wpW_val (r_move (.tmp 0) rfl (hP.out 0 (dm_out (by kernel_rfl)))) ⟨_, rfl, hS2, trivial, (fun h => by simp at h), rfl⟩)
    · obtain rfl := Option.some.inj ho
      exact wpOpIn_of rfl rfl (wpW_val (r_nil (.tmp 8) _ rfl (hpre ⟨0, .data⟩ (by simp) rfl).2) ⟨_, rfl, hS2, trivial, (fun h => by simp at h), rfl⟩)
    · obtain rfl := Option.some.inj ho
      exact wpOpIn_of rfl rfl (wpW_val (r_fld (.tmp 9) _ rfl (hpre ⟨1, .data⟩ (by simp) rfl).2 (fld151_2 b _)) ⟨_, rfl, hS2, trivial, (fun h => by simp at h), rfl⟩)
    · obtain rfl := Option.some.inj ho
      have h22 := not_yet hcl 22 rfl ⟨3, .phase⟩ (by simp) rfl hls
      have h20 := not_yet hcl 20 rfl ⟨3, .phase⟩ (by simp) rfl hls
      have hw := sel3 hS2 h22 h20
      subst hw
      exact wpOpIn_of rfl rfl (wpW_val (r_load1 22 agg22 (.tmp 10) ⟨b, 2, none⟩ rfl (hpre ⟨2, .data⟩ (by simp) rfl).2 p1) ⟨_, rfl, hS2, trivial, (fun h => by simp at h), rfl⟩)
    · obtain rfl := Option.some.inj ho
      exact wpOpIn_of rfl rfl (wpW_val (r_move (.tmp 1) rfl (hP.out 1 (dm_out (by kernel_rfl)))) ⟨_, rfl, hS2, trivial, (fun h => by simp at h), rfl⟩)
    · obtain rfl := Option.some.inj ho
      exact wpOpIn_of rfl rfl (wpW_val (r_idx (.tmp 11) (.tmp 12) _ _ rfl (hpre ⟨3, .data⟩ (by simp) rfl).2 (hpre ⟨4, .data⟩ (by simp) rfl).2 (idx_sl Try.underlying22 size24 gr _ cr u hu _)) ⟨_, rfl, hS2, trivial, (fun h => by simp at h), rfl⟩)
    · obtain rfl := Option.some.inj ho
      have h22 := not_yet hcl 22 rfl ⟨6, .phase⟩ (by simp) rfl hls
      have h20 := not_yet hcl 20 rfl ⟨6, .phase⟩ (by simp) rfl hls
      have hw := sel3 hS2 h22 h20
      subst hw
      exact wpOpIn_of rfl rfl (wpW_val (r_load1 24 agg24 (.tmp 13) ⟨gr, u, none⟩ rfl (hpre ⟨5, .data⟩ (by simp) rfl).2 p2) ⟨_, rfl, hS2, trivial, (fun h => by simp at h), rfl⟩)
    · obtain rfl := Option.some.inj ho
      exact wpOpIn_of rfl rfl (wpW_val (r_move (.tmp 2) rfl (hP.out 2 (dm_out (by kernel_rfl)))) ⟨_, rfl, hS2, trivial, (fun h => by simp at h), rfl⟩)
    · obtain rfl := Option.some.inj ho
      exact wpOpIn_of rfl rfl (wpW_val (r_move (.tmp 0) rfl (hP.out 0 (dm_out (by kernel_rfl)))) ⟨_, rfl, hS2, trivial, (fun h => by simp at h), rfl⟩)
    · obtain rfl := Option.some.inj ho
      exact wpOpIn_of rfl rfl (wpW_val (r_nil (.tmp 16) _ rfl (hpre ⟨8, .data⟩ (by simp) rfl).2) ⟨_, rfl, hS2, trivial, (fun h => by simp at h), rfl⟩)
    · obtain rfl := Option.some.inj ho
      exact wpOpIn_of rfl rfl (wpW_val (r_fld (.tmp 17) _ rfl (hpre ⟨9, .data⟩ (by simp) rfl).2 (fld151_2 b _)) ⟨_, rfl, hS2, trivial, (fun h => by simp at h), rfl⟩)
    · obtain rfl := Option.some.inj ho
      have h22 := not_yet hcl 22 rfl ⟨11, .phase⟩ (by simp) rfl hls
      have h20 := not_yet hcl 20 rfl ⟨11, .phase⟩ (by simp) rfl hls
      have hw := sel3 hS2 h22 h20
      subst hw
      exact wpOpIn_of rfl rfl (wpW_val (r_load1 22 agg22 (.tmp 18) ⟨b, 2, none⟩ rfl (hpre ⟨10, .data⟩ (by simp) rfl).2 p1) ⟨_, rfl, hS2, trivial, (fun h => by simp at h), rfl⟩)
    · obtain rfl := Option.some.inj ho
      exact wpOpIn_of rfl rfl (wpW_val (r_move (.tmp 3) rfl (hP.out 3 (dm_out (by kernel_rfl)))) ⟨_, rfl, hS2, trivial, (fun h => by simp at h), rfl⟩)
    · obtain rfl := Option.some.inj ho
      exact wpOpIn_of rfl rfl (wpW_val (r_idx (.tmp 19) (.tmp 20) _ _ rfl (hpre ⟨11, .data⟩ (by simp) rfl).2 (hpre ⟨12, .data⟩ (by simp) rfl).2 (idx_sl Try.underlying22 size24 gr _ cr d hv _)) ⟨_, rfl, hS2, trivial, (fun h => by simp at h), rfl⟩)
    · obtain rfl := Option.some.inj ho
      have h22 := not_yet hcl 22 rfl ⟨14, .phase⟩ (by simp) rfl hls
      have h20 := not_yet hcl 20 rfl ⟨14, .phase⟩ (by simp) rfl hls
      have hw := sel3 hS2 h22 h20
      subst hw
      exact wpOpIn_of rfl rfl (wpW_val (r_load1 24 agg24 (.tmp 21) ⟨gr, d, none⟩ rfl (hpre ⟨13, .data⟩ (by simp) rfl).2 p3) ⟨_, rfl, hS2, trivial, (fun h => by simp at h), rfl⟩)
    · obtain rfl := Option.some.inj ho
      exact wpOpIn_of rfl rfl (wpW_val (r_move (.tmp 2) rfl (hP.out 2 (dm_out (by kernel_rfl)))) ⟨_, rfl, hS2, trivial, (fun h => by simp at h), rfl⟩)
    · obtain rfl := Option.some.inj ho
      exact wpOpIn_of rfl rfl (wpW_val (r_xor (.tmp 23) (c : Int) _ rfl (hpre ⟨15, .data⟩ (by simp) rfl).2 hfe) ⟨_, rfl, hS2, trivial, (fun h => by simp at h), rfl⟩)
    · obtain rfl := Option.some.inj ho
      exact wpOpIn_of rfl rfl (wpW_val (r_move (.tmp 3) rfl (hP.out 3 (dm_out (by kernel_rfl)))) ⟨_, rfl, hS2, trivial, (fun h => by simp at h), rfl⟩)
    · obtain rfl := Option.some.inj ho
      exact wpOpIn_of rfl rfl (wpW_val (r_move (.tmp 1) rfl (hP.out 1 (dm_out (by kernel_rfl)))) ⟨_, rfl, hS2, trivial, (fun h => by simp at h), rfl⟩)
    · obtain rfl := Option.some.inj ho
      exact wpOpIn_of rfl rfl (wpW_val (r_idx (.tmp 14) (.tmp 15) _ _ rfl (hpre ⟨6, .data⟩ (by simp) rfl).2 (hpre ⟨7, .data⟩ (by simp) rfl).2 (idx_sl Try.underlying24 size3 bu _ ku c hc _)) ⟨_, rfl, hS2, trivial, (fun h => by simp at h), rfl⟩)
    · obtain rfl := Option.some.inj ho
      have h22 := not_yet hcl 22 rfl ⟨20, .chain⟩ (by simp) rfl hls
      have hw := sel3 hS2 h22 hls
      subst hw
      exact wpOpIn_of rfl rfl (wpW_skip (r_store1 3 (.tmp 27) (.tmp 25) _ _ _ rfl (hpre ⟨19, .data⟩ (by simp) rfl).2 (hpre ⟨17, .data⟩ (by simp) rfl).2 rfl f4 f5 (st3 _ _ _ f4 f5)) ⟨undef, rfl, (by show _ = bif ls 22 then _ else _; rw [h22]; rfl), trivial, fun _ => rfl, rfl⟩)
    · obtain rfl := Option.some.inj ho
      exact wpOpIn_of rfl rfl (wpW_val (r_idx (.tmp 22) (.tmp 24) _ _ rfl (hpre ⟨14, .data⟩ (by simp) rfl).2 (hpre ⟨16, .data⟩ (by simp) rfl).2 (idx_sl Try.underlying24 size3 bv _ kv (flp c) hfl _)) ⟨_, rfl, hS2, trivial, (fun h => by simp at h), rfl⟩)
    · obtain rfl := Option.some.inj ho
      have h20 : ls 20 = true := (hpre ⟨20, .chain⟩ (by simp) rfl).1
      rw [hls, h20] at hS2
      change w2 = w.drew.setCell ⟨bu, c, none⟩ (.int .i64 (d : Int)) at hS2
      subst hS2
      exact wpOpIn_of rfl rfl (wpW_skip (r_store1 3 (.tmp 28) (.tmp 26) _ _ _ rfl (hpre ⟨21, .data⟩ (by simp) rfl).2 (hpre ⟨18, .data⟩ (by simp) rfl).2 rfl f6 f7 (st3 _ _ _ f6 f7)) ⟨undef, rfl, rfl, trivial, fun _ => rfl, rfl⟩)
  · intro ls a w2 hall hS2 hP hsl
    have h22 : ls 22 = true := hall 22 (by decide)
    rw [h22] at hS2
    obtain ⟨vs, hvs, hfr⟩ := hP.frame 41 rfl
    clear hsl hP hall h22 hvs
    subst hfr
    subst hS2
    dsimp only
    simp only [List.range, List.range.loop, List.map_cons, List.map_nil, List.any_cons, List.any_nil, Nat.reduceAdd, Nat.reduceBEq, Nat.reduceLT, Nat.reduceEqDiff, Option.some_beq_some, Bool.or_false, if_true, if_false, List.getD_cons_zero, List.getD_cons_succ, cond_true]
    generalize (w.drew.setCell ⟨bu, c, none⟩ (.int .i64 (d : Int))).setCell ⟨bv, flp c, none⟩ (.int .i64 (u : Int)) = w9 at *
    go_wp2_with ((with_reducible refine wpList_sel 38 ?_); refine wpList_val rfl (r_app (.tmp 33) (.tmp 37) 98 rfl rfl rfl HAPP.out) ?_)
    go_end0
    exact ⟨rfl, HST.out, HBE.out⟩
end Go.Proofs
namespace Go.Proofs
open Go.RowKit Go.Shelf Go.Proofs.Ct Go.Maps
structure BoxG (T : TypeId) (wv : Value) (b lim : Nat) (w : World) (s : St) (vr vp vq vk : Value) : Prop where
  box : w.heap[b]? = some (.cells #[vr, vp, vq, vk, wv, .int .i64 (lim : Int), .int .i64 s.live, .int .i64 s.most] T (0, 0))
section
variable {T : TypeId} {wv : Value} {b lim : Nat} {w w' : World} {s s' : St} {vr vp vq vk : Value}
end
def StGB (K : Nat → Prop) (T : TypeId) (wv : Value) (bl cs : Nat → Nat) (base b lim : Nat) (w : World) (f : FS) : Prop := base ≤ b ∧ ∃ P vr vp vq vk, BoxG T wv b lim w f.s vr vp vq vk ∧ CoreM base w f.s P vr vp vq bl cs ∧ OwnC base w vk f.k ∧ Free K w b vr vp vq vk bl f.s.t.length
def StG (K : Nat → Prop) (T : TypeId) (wv : Value) (base b lim : Nat) (w : World) (f : FS) : Prop := ∃ bl cs, StGB K T wv bl cs base b lim w f
end Go.Proofs
