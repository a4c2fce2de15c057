/- (*coset.state).find; (*coset.state).alive, join, merge; (*coset.state).merge; (*coset.state).merge, the walk; (*coset.state).coincide: what it meets. -/
import Derived.Test.YtffkmchmakfcpaaOrCS7
import Derived.BigRegion
import Derived.WalkMore
namespace Go.Proofs.B18
open Go.RowKit Go.Shelf Go.Proofs.Ct Go.Maps
/-- the program's state: its box b, width wd, limit lim -/
structure BoxP (b wd lim : Nat) (w : World) (s : St) (vr vp vq : Value) : Prop where
  box : w.heap[b]? = some (.cells #[.int .i64 (wd : Int), .int .i64 (lim : Int), vr, vp, vq, .int .i64 s.live, .int .i64 s.most] 131 (0, 0))
theorem BoxP.cells {b wd lim : Nat} {w : World} {s : St} {vr vp vq : Value} (h : BoxP b wd lim w s vr vp vq) : w.cell? ⟨b, 0, none⟩ = some (.int .i64 (wd : Int)) ∧ w.cell? ⟨b, 1, none⟩ = some (.int .i64 (lim : Int)) ∧ w.cell? ⟨b, 2, none⟩ = some vr ∧ w.cell? ⟨b, 3, none⟩ = some vp ∧ w.cell? ⟨b, 4, none⟩ = some vq ∧ w.cell? ⟨b, 5, none⟩ = some (.int .i64 s.live) ∧ w.cell? ⟨b, 6, none⟩ = some (.int .i64 s.most) := by
  have hc := h.box
  refine ⟨?_, ?_, ?_, ?_, ?_, ?_, ?_⟩ <;> (rw [cell_of_row _ _ _ _ _ _ hc]; rfl)
theorem BoxP.below {b wd lim : Nat} {w w' : World} {s : St} {vr vp vq : Value} (h : BoxP b wd lim w s vr vp vq) (hb : Below w.heap.size w w') : BoxP b wd lim w' s vr vp vq := ⟨(hb.block _ (Array.getElem?_eq_some_iff.1 h.box).1).trans h.box⟩
theorem BoxP.other {b wd lim : Nat} {w : World} {s : St} {vr vp vq : Value} (h : BoxP b wd lim w s vr vp vq) {g : Nat} {T : TypeId} (hg : ∃ C, w.heap[g]? = some (.cells C T (0, 0))) (hT : T ≠ 131) (k : Nat) (v : Value) : BoxP b wd lim (w.setCell ⟨g, k, none⟩ v) s vr vp vq :=
  ⟨(Below.heap_setCell w ⟨g, k, none⟩ v b (fun e => by
    obtain ⟨C, hC⟩ := hg
    have e' : b = g := e
    have := h.box
    rw [e', hC] at this
    cases this
    exact hT rfl)).trans h.box⟩
/-- the state behind some steps that shorten ways -/
def HeldP (base b wd lim : Nat) (w : World) (s : St) (vr vp vq : Value) (bl cs : Nat → Nat) (wr : World) : Prop := ∃ P', BoxP b wd lim wr s vr vp vq ∧ CoreM base wr s P' vr vp vq bl cs ∧ Below base w wr
/-- the program's state in memory -/
def StP (base b wd lim : Nat) (w : World) (s : St) : Prop := base ≤ b ∧ ∃ P vr vp vq bl cs, BoxP b wd lim w s vr vp vq ∧ CoreM base w s P vr vp vq bl cs
set_option maxRecDepth 100000 in
set_option maxHeartbeats 1000000 in
theorem find156_any (g base b wd lim c : Nat) (w : World) (s : St) (hI : Inv g s) (hS : StP base b wd lim w s) (hc : c < s.t.length) (hn : s.t.length ≤ 1000000) :
    Calls Try.prog 118 #[.pointer (some ⟨b, 0, none⟩), .int .i64 (c : Int)] w fun e w' => e = .returned (.int .i64 (s.rp c : Int)) ∧ StP base b wd lim w' s ∧ Below base w w' := by
  obtain ⟨hb, P, vr, vp, vq, bl, cs, hB, hC⟩ := hS
  obtain ⟨gp, cp, rfl, hg1, hg2, -, -⟩ := ownI_cell hC.par (by rw [hC.len]; omega)
  have HB := Lib.hid hB
  have HC := Lib.hid hC
  have HI := Lib.hid hI
  have hPl := hC.len
  rw [hPl] at HB HC
  have HBB := Lib.hid hb
  have HBW : Hid (base ≤ w.heap.size) := Lib.hid (by omega)
  have hbs : b < w.heap.size := (Array.getElem?_eq_some_iff.1 hB.box).1
  have HRC := Lib.hid (hC.root.root c hc)
  obtain ⟨c0, c1, c2, c3, c4, c5, c6⟩ := hB.cells
  rw [hPl] at c3
  have hn0 : (s.t.length : Int) ≤ 1000000 := by omega
  clear hB hC hI hPl c0 c1 c2 c4 c5 c6
  go_enter Try.func118, Try.ntmps118
  go_wp2_with fail
  go_step3
  go_wp2_with fail
  go_step3
  go_wp2_with fail
  go_loopw [5] (fun i wr => ∃ r : Nat, i = .int .i64 r ∧ r < s.t.length ∧ Hid (Root P r (s.rp c)) ∧ w = wr) (fun i _ => (intOf i).toNat)
  case atStart => exact ⟨c, rfl, hc, HRC, rfl⟩
  case round =>
    obtain ⟨r, rfl, hr, HR, rfl⟩ := hrel
    have hr0 : (0 : Int) ≤ (r : Int) := Int.natCast_nonneg _
    have hrI : (r : Int) < (s.t.length : Int) := by omega
    obtain ⟨y, hy, hyx, hyr, hyi⟩ := HR.out.parent
    have hck := (ownI_at HC.out.par (k := r) (by rw [HC.out.len]; exact hr)).1
    rw [hy] at hck
    have HYR := Lib.hid hyr
    have HYI := Lib.hid hyi
    clear hy hyr hyi
    by_cases hyx2 : y = r
    · subst hyx2
      have HE : Hid (s.rp c = y) := Lib.hid (HYI.out.1 rfl)
      go_wp2_with fail
      go_loopw [1] (fun i wr => ∃ c' : Nat, i = .int .i64 c' ∧ c' < s.t.length ∧ Hid (s.rp c' = y) ∧ Hid (HeldP base b wd lim w s vr (.slice (some ⟨gp, 0, none⟩) s.t.length cp) vq bl cs wr)) (fun i _ => (intOf i).toNat)
      case atStart => exact ⟨c, rfl, hc, HE, Lib.hid ⟨P, HB.out, HC.out, Below.refl _ _⟩⟩
      case round =>
        clear hck c3 HR HYR HYI
        obtain ⟨c', rfl, hc', HR, HW⟩ := hrel
        obtain ⟨P', hB, hC, hbel⟩ := HW.out
        have hc0 : (0 : Int) ≤ (c' : Int) := Int.natCast_nonneg _
        have hcI : (c' : Int) < (s.t.length : Int) := by omega
        obtain ⟨z, hz, hzx, hzr, hzi⟩ := (hC.root.root c' hc').parent
        obtain ⟨hck, hfk⟩ := ownI_at hC.par (k := c') (by rw [hC.len]; exact hc')
        rw [hz] at hck
        obtain ⟨-, -, -, c3, -, -, -⟩ := hB.cells
        have HBx := Lib.hid hB
        have HCx := Lib.hid hC
        have HBE := Lib.hid hbel
        have HZR := Lib.hid hzr
        have HZI := Lib.hid hzi
        clear hB hC hbel hz hzr hzi HW
        by_cases hzy : z = y
        · subst hzy
          have d2 : ((z : Int) != (z : Int)) = false := by simp
          go_wp2_with fail
          try rw [Exit.noGoto_ret]
          go_ret
          exact ⟨ret_int (by rw [HE.out]), ⟨HBB.out, P', vr, _, vq, bl, cs, HBx.out, HCx.out⟩, HBE.out⟩
        · have d2 : ((z : Int) != (y : Int)) = true := by simp; omega
          have hzl : z < c' := by
            rcases Nat.lt_or_ge z c' with h | h
            · exact h
            · have h1 : z = c' := by omega
              have h2 := HZI.out.1 h1
              rw [HR.out] at h2
              omega
          have HZ := Lib.hid hzy
          clear hzy
          go_wp2_with fail
          refine (wpIn_wide (n := 3)).1 ?_
          have HCK : Hid (wr.drew.cell? ⟨gp, c', none⟩ = some (.int .i64 (z : Int))) := Lib.hid hck
          have HFK : Hid (wr.drew.frozen? ⟨gp, c', none⟩ = false) := Lib.hid hfk
          have HC3 : Hid (wr.drew.cell? ⟨b, 3, none⟩ = some (.slice (some ⟨gp, 0, none⟩) s.t.length cp)) := Lib.hid c3
          refine wpIn_region_all (by kernel_rfl) 16 rfl (fun i => if i < 14 then some (32 + i) else if i = 14 then none else some 1) (lex_of (by kernel_rfl)) (fun ls W => W = bif ls 14 then wr.drew.setCell ⟨gp, c', none⟩ (.int .i64 (y : Int)) else wr.drew)
            (fun i v _ => v = ([.pointer (some ⟨b, 0, none⟩), .pointer (some ⟨b, 0, none⟩), .pointer (some ⟨b, 3, none⟩), .slice (some ⟨gp, 0, none⟩) s.t.length cp, .int .i64 (c' : Int), .int .i64 (y : Int), .pointer (some ⟨b, 0, none⟩), .pointer (some ⟨b, 0, none⟩), .pointer (some ⟨b, 3, none⟩), .slice (some ⟨gp, 0, none⟩) s.t.length cp, .int .i64 (c' : Int), .pointer (some ⟨gp, c', none⟩), .int .i64 (z : Int), .pointer (some ⟨gp, c', none⟩), undef, .int .i64 (z : Int)] : List Value).getD i undef) (fun _ _ _ => True) (dm_inj (by kernel_rfl)) (fun _ _ _ _ _ _ _ _ _ h => h) (dm_lt (n := 47) (by kernel_rfl)) rfl ?_ ?_
          · intro ls q o a w2 hq ho hS2 hls hcl hP hpre
            have hcases : q = 0 ∨ q = 1 ∨ q = 2 ∨ q = 3 ∨ q = 4 ∨ q = 5 ∨ q = 6 ∨ q = 7 ∨ q = 8 ∨ q = 9 ∨ q = 10 ∨ q = 11 ∨ q = 12 ∨ q = 13 ∨ q = 14 ∨ q = 15 := by
              have : q < 16 := hq
              omega
            rcases hcases with rfl | rfl | rfl | rfl | rfl | rfl | rfl | rfl | rfl | rfl | rfl | rfl | rfl | rfl | rfl | rfl
            · obtain rfl := Option.some.inj ho
              exact wpOpIn_of rfl rfl (wpW_val (r_move (.tmp 0) rfl (hP.out 0 (dm_out (by kernel_rfl)))) ⟨_, rfl, hS2, trivial, (fun h => by simp at h), rfl⟩)
            · obtain rfl := Option.some.inj ho
              exact wpOpIn_of rfl rfl (wpW_val (r_nil (.tmp 32) _ rfl (hpre ⟨0, .data⟩ (by simp) rfl).2) ⟨_, rfl, hS2, trivial, (fun h => by simp at h), rfl⟩)
            · obtain rfl := Option.some.inj ho
              exact wpOpIn_of rfl rfl (wpW_val (r_fld (.tmp 33) _ rfl (hpre ⟨1, .data⟩ (by simp) rfl).2 (fld116_3 b _)) ⟨_, rfl, hS2, trivial, (fun h => by simp at h), rfl⟩)
            · obtain rfl := Option.some.inj ho
              have h14 := not_yet hcl 14 rfl ⟨3, .phase⟩ (by simp) rfl hls
              rw [h14] at hS2
              subst hS2
              exact wpOpIn_of rfl rfl (wpW_val (r_load1 22 agg24 (.tmp 34) ⟨b, 3, none⟩ rfl (hpre ⟨2, .data⟩ (by simp) rfl).2 HC3.out) ⟨_, rfl, (by rw [← h14]; rfl), trivial, (fun h => by simp at h), rfl⟩)
            · obtain rfl := Option.some.inj ho
              have h15 := not_yet hcl 15 rfl ⟨4, .phase⟩ (by simp) rfl hls
              exact wpOpIn_of rfl rfl (wpW_val (r_move (.tmp 1) rfl (hP.out 1 (dm_out1 h15 (by kernel_rfl)))) ⟨_, rfl, hS2, trivial, (fun h => by simp at h), rfl⟩)
            · obtain rfl := Option.some.inj ho
              exact wpOpIn_of rfl rfl (wpW_val (r_move (.tmp 5) rfl (hP.out 5 (dm_out (by kernel_rfl)))) ⟨_, rfl, hS2, trivial, (fun h => by simp at h), rfl⟩)
            · obtain rfl := Option.some.inj ho
              exact wpOpIn_of rfl rfl (wpW_val (r_move (.tmp 0) rfl (hP.out 0 (dm_out (by kernel_rfl)))) ⟨_, rfl, hS2, trivial, (fun h => by simp at h), rfl⟩)
            · obtain rfl := Option.some.inj ho
              exact wpOpIn_of rfl rfl (wpW_val (r_nil (.tmp 38) _ rfl (hpre ⟨6, .data⟩ (by simp) rfl).2) ⟨_, rfl, hS2, trivial, (fun h => by simp at h), rfl⟩)
            · obtain rfl := Option.some.inj ho
              exact wpOpIn_of rfl rfl (wpW_val (r_fld (.tmp 39) _ rfl (hpre ⟨7, .data⟩ (by simp) rfl).2 (fld116_3 b _)) ⟨_, rfl, hS2, trivial, (fun h => by simp at h), rfl⟩)
            · obtain rfl := Option.some.inj ho
              have h14 := not_yet hcl 14 rfl ⟨9, .phase⟩ (by simp) rfl hls
              rw [h14] at hS2
              subst hS2
              exact wpOpIn_of rfl rfl (wpW_val (r_load1 22 agg24 (.tmp 40) ⟨b, 3, none⟩ rfl (hpre ⟨8, .data⟩ (by simp) rfl).2 HC3.out) ⟨_, rfl, (by rw [← h14]; rfl), trivial, (fun h => by simp at h), rfl⟩)
            · obtain rfl := Option.some.inj ho
              have h15 := not_yet hcl 15 rfl ⟨10, .phase⟩ (by simp) rfl hls
              exact wpOpIn_of rfl rfl (wpW_val (r_move (.tmp 1) rfl (hP.out 1 (dm_out1 h15 (by kernel_rfl)))) ⟨_, rfl, hS2, trivial, (fun h => by simp at h), rfl⟩)
            · obtain rfl := Option.some.inj ho
              exact wpOpIn_of rfl rfl (wpW_val (r_idx (.tmp 41) (.tmp 42) _ _ rfl (hpre ⟨9, .data⟩ (by simp) rfl).2 (hpre ⟨10, .data⟩ (by simp) rfl).2 (idx_sl Try.underlying22 size3 gp _ cp c' hc' _)) ⟨_, rfl, hS2, trivial, (fun h => by simp at h), rfl⟩)
            · obtain rfl := Option.some.inj ho
              have h14 := not_yet hcl 14 rfl ⟨12, .phase⟩ (by simp) rfl hls
              rw [h14] at hS2
              subst hS2
              exact wpOpIn_of rfl rfl (wpW_val (r_load1 3 agg3 (.tmp 43) ⟨gp, c', none⟩ rfl (hpre ⟨11, .data⟩ (by simp) rfl).2 HCK.out) ⟨_, rfl, (by rw [← h14]; rfl), trivial, (fun h => by simp at h), rfl⟩)
            · obtain rfl := Option.some.inj ho
              exact wpOpIn_of rfl rfl (wpW_val (r_idx (.tmp 35) (.tmp 36) _ _ rfl (hpre ⟨3, .data⟩ (by simp) rfl).2 (hpre ⟨4, .data⟩ (by simp) rfl).2 (idx_sl Try.underlying22 size3 gp _ cp c' hc' _)) ⟨_, rfl, hS2, trivial, (fun h => by simp at h), rfl⟩)
            · obtain rfl := Option.some.inj ho
              rw [hls] at hS2
              subst hS2
              exact wpOpIn_of rfl rfl (wpW_skip (r_store1 3 (.tmp 45) (.tmp 37) _ _ _ rfl (hpre ⟨13, .data⟩ (by simp) rfl).2 (hpre ⟨5, .data⟩ (by simp) rfl).2 rfl HCK.out HFK.out (st3 _ _ _ HCK.out HFK.out)) ⟨undef, rfl, rfl, trivial, fun _ => rfl, rfl⟩)
            · obtain rfl := Option.some.inj ho
              exact wpOpIn_of rfl rfl (wpW_val (r_assign (.tmp 44) rfl (hpre ⟨12, .data⟩ (by simp) rfl).2) ⟨_, rfl, hS2, trivial, (fun h => by simp at h), rfl⟩)
          · intro ls a w2 hall hS2 hP hsl
            have h14 : ls 14 = true := hall 14 (by decide)
            rw [h14] at hS2
            obtain ⟨vs, hvs, hfr⟩ := hP.frame 47 rfl
            have h1 : vs 1 = .int .i64 (z : Int) := (hvs 1).trans (hsl 15 (by decide))
            have hd := (Below.refl wr.heap.size wr).drew
            have hC2 := (HCx.out.below hd).setP (g := gp) rfl (x := c') (by rw [HCx.out.len]; exact hc') (y : Int) (s' := s) rfl rfl (by rw [← HR.out]; exact HCx.out.root.short hc')
            have hB2 := (HBx.out.below hd).other (owns_block (owns_below HCx.out.par hd) gp rfl).2 (by decide) c' (.int .i64 (y : Int))
            have hbel2 : Below base w (wr.drew.setCell ⟨gp, c', none⟩ (.int .i64 (y : Int))) := (HBE.out.trans (hd.mono (Nat.le_trans HBW.out HBE.out.size))).setCell (by exact hg1) _
            have HW2 : Hid (HeldP base b wd lim w s vr (.slice (some ⟨gp, 0, none⟩) s.t.length cp) vq bl cs (wr.drew.setCell ⟨gp, c', none⟩ (.int .i64 (y : Int)))) := Lib.hid ⟨_, hB2, hC2, hbel2⟩
            have HZ2 : Hid (s.rp z = y) := Lib.hid (by
              have h1 := HCx.out.root.root z (by omega)
              rw [h1.unique HZR.out, HR.out])
            clear hsl hP hall h14 hvs hd hC2 hB2 hbel2
            subst hfr
            subst hS2
            dsimp only
            simp only [List.range, List.range.loop, List.map_cons, List.map_nil, List.any_cons, List.any_nil, Nat.reduceAdd, Nat.reduceBEq, Nat.reduceLT, Nat.reduceEqDiff, Option.some_beq_some, Bool.or_false, Bool.or_true, if_true, if_false, List.getD_cons_zero, List.getD_cons_succ, h1, cond_true]
            generalize hw2 : wr.drew.setCell ⟨gp, c', none⟩ (.int .i64 (y : Int)) = w9 at *
            clear hw2
            go_wp2_with fail
            go_roundw
            case rel => first | exact ⟨z, rfl, by omega, HZ2, HW2⟩ | exact ⟨z, rfl, by omega, HZ2⟩
            case measure => simp [intOf]; omega
    · have d1 : ((y : Int) == (r : Int)) = false := by rw [beq_eq_false_iff_ne]; omega
      have hyl : y < r := by omega
      clear hyx2
      go_wp2_with fail
      go_roundw
      case rel => exact ⟨y, rfl, by omega, HYR, (by first | trivial | rfl)⟩
      case measure => simp [intOf]; omega
end Go.Proofs.B18
namespace Go.Proofs.B18
open Go.RowKit Go.Shelf Go.Proofs.Ct Go.Maps
theorem box_set {w : World} {b : Nat} {C : Array Value} {T : TypeId} (hb : w.heap[b]? = some (.cells C T (0, 0))) (k : Nat) (v : Value) : (w.setCell ⟨b, k, none⟩ v).heap[b]? = some (.cells (C.setIfInBounds k v) T (0, 0)) := by
  simp [World.setCell, Array.getElem?_modify, hb]
section
variable {b wd lim : Nat} {w : World} {s s' : St} {vr vp vq : Value}
theorem BoxP.upd2 (h : BoxP b wd lim w s vr vp vq) (v : Value) (hl : s'.live = s.live) (hm : s'.most = s.most) : BoxP b wd lim (w.setCell ⟨b, 2, none⟩ v) s' v vp vq := ⟨by rw [box_set h.box]; simp [hl, hm]⟩
theorem BoxP.upd3 (h : BoxP b wd lim w s vr vp vq) (v : Value) (hl : s'.live = s.live) (hm : s'.most = s.most) : BoxP b wd lim (w.setCell ⟨b, 3, none⟩ v) s' vr v vq := ⟨by rw [box_set h.box]; simp [hl, hm]⟩
theorem BoxP.upd4 (h : BoxP b wd lim w s vr vp vq) (v : Value) (hl : s'.live = s.live) (hm : s'.most = s.most) : BoxP b wd lim (w.setCell ⟨b, 4, none⟩ v) s' vr vp v := ⟨by rw [box_set h.box]; simp [hl, hm]⟩
theorem BoxP.upd5 (h : BoxP b wd lim w s vr vp vq) {z : Int} (hl : s'.live = z) (hm : s'.most = s.most) : BoxP b wd lim (w.setCell ⟨b, 5, none⟩ (.int .i64 z)) s' vr vp vq := ⟨by rw [box_set h.box]; simp [hl, hm]⟩
theorem BoxP.upd6 (h : BoxP b wd lim w s vr vp vq) {z : Int} (hl : s'.live = s.live) (hm : s'.most = z) : BoxP b wd lim (w.setCell ⟨b, 6, none⟩ (.int .i64 z)) s' vr vp vq := ⟨by rw [box_set h.box]; simp [hl, hm]⟩
theorem BoxP.frozen (h : BoxP b wd lim w s vr vp vq) (k : Nat) : w.frozen? ⟨b, k, none⟩ = false := by simp [World.frozen?, h.box]
theorem BoxP.lt (h : BoxP b wd lim w s vr vp vq) : b < w.heap.size := (Array.getElem?_eq_some_iff.1 h.box).1
theorem BoxP.of (h : BoxP b wd lim w s vr vp vq) (hl : s'.live = s.live) (hm : s'.most = s.most) : BoxP b wd lim w s' vr vp vq := ⟨by rw [hl, hm]; exact h.box⟩
end
theorem alive127_any (_g base b wd lim r : Nat) (w : World) (s : St) (hS : StP base b wd lim w s) (hr : r < s.t.length) :
    Calls Try.prog 103 #[.pointer (some ⟨b, 0, none⟩), .int .i64 (r : Int)] w fun e w' => e = .returned (.bool (decide (s.rp r = r))) ∧ w' = w := by
  obtain ⟨hb, P, vr, vp, vq, bl, cs, hB, hC⟩ := hS
  obtain ⟨gp, cp, rfl, -, -, hcc, -⟩ := ownI_cell hC.par (by rw [hC.len]; omega)
  have hck := hcc r (by rw [hC.len]; exact hr)
  obtain ⟨y, hy, -, -, hyi⟩ := (hC.root.root r hr).parent
  rw [hy] at hck
  obtain ⟨-, -, -, c3, -, -, -⟩ := hB.cells
  rw [hC.len] at c3
  have hr0 : (0 : Int) ≤ (r : Int) := Int.natCast_nonneg _
  have hrI : (r : Int) < (s.t.length : Int) := by omega
  have HYI := Lib.hid hyi
  clear hB hC hcc hy hyi
  by_cases h : y = r
  · have HD : Hid (decide (s.rp r = r) = true) := Lib.hid (decide_eq_true (HYI.out.1 h))
    have d1 : ((y : Int) == (r : Int)) = true := by rw [h]; simp
    clear h
    generalize decide (s.rp r = r) = x at *
    go_enter Try.func103, Try.ntmps103
    go_wp2_with fail
    go_ret
    exact ⟨ret_bool HD.out.symm, (by first | trivial | rfl)⟩
  · have HD : Hid (decide (s.rp r = r) = false) := Lib.hid (decide_eq_false fun h' => h (HYI.out.2 h'))
    have d1 : ((y : Int) == (r : Int)) = false := by rw [beq_eq_false_iff_ne]; omega
    clear h
    generalize decide (s.rp r = r) = x at *
    go_enter Try.func103, Try.ntmps103
    go_wp2_with fail
    go_ret
    exact ⟨ret_bool HD.out.symm, (by first | trivial | rfl)⟩
set_option maxRecDepth 100000 in
set_option maxHeartbeats 1000000 in
theorem join149_any (g base b wd lim u c v : Nat) (w : World) (s : St) (hI : Inv g s) (hg : g ≤ 16) (hS : StP base b wd lim w s) (_hbw : base ≤ w.heap.size) (hu : u < s.t.length) (hv : v < s.t.length) (hc : c < 2 * g) (_hn : s.t.length ≤ 1000000) :
    Calls Try.prog 112 #[.pointer (some ⟨b, 0, none⟩), .int .i64 (u : Int), .int .i64 (c : Int), .int .i64 (v : Int)] w fun e w' => e = .returned (.tuple #[]) ∧ StP base b wd lim w' (joinS s u c v) ∧ Below base w w' := by
  obtain ⟨hb, P, vr, vp, vq, bl, cs, hB, hC⟩ := hS
  have hlu := hI.len u hu
  have hlv := hI.len v hv
  have hf := flp_lt2 hc
  obtain ⟨gr, cr, rfl, r1, r2, r3⟩ := hC.at_ hu (c := c) (by omega)
  have hC1 := hC.set hu (c := c) (by omega) (v : Int)
  obtain ⟨-, Cu, hCu⟩ : True ∧ ∃ C, w.heap[bl u]? = some (.cells C 3 (0, 0)) := by obtain ⟨-, ⟨C, h, -⟩, -⟩ := hC.row u hu; exact ⟨trivial, C, h⟩
  have hB1 := hB.other ⟨Cu, hCu⟩ (by decide) c (.int .i64 (v : Int))
  have hbu := (hC.row u hu).1
  obtain ⟨gr', cr', e', q1, q2, q3⟩ := hC1.at_ (r := v) (c := flp c) (by simpa [length_set2] using hv) (by simp only [rowlen_set2]; omega)
  have e1 : gr = gr' := by have := congrArg Value.ownBlock e'; simpa [Value.ownBlock] using this
  subst e1
  have hlen1 : ({ s with t := set2 s.t u c (v : Int) } : St).t.length = s.t.length := length_set2 _ _ _ _
  have hC2 := hC1.set (r := v) (c := flp c) (by rw [hlen1]; exact hv) (by simp only [rowlen_set2]; omega) (u : Int)
  obtain ⟨-, Cv, hCv⟩ : True ∧ ∃ C, (w.setCell ⟨bl u, c, none⟩ (.int .i64 (v : Int))).heap[bl v]? = some (.cells C 3 (0, 0)) := by obtain ⟨-, ⟨C, h, -⟩, -⟩ := hC1.row v (by rw [hlen1]; exact hv); exact ⟨trivial, C, h⟩
  have hB2 := hB1.other ⟨Cv, hCv⟩ (by decide) (flp c) (.int .i64 (u : Int))
  have hbv := (hC.row v hv).1
  obtain ⟨-, -, b2, -, -, -, -⟩ := hB.cells
  obtain ⟨-, -, b3, -, -, -, -⟩ := hB1.cells
  have HST : Hid (StP base b wd lim ((w.setCell ⟨bl u, c, none⟩ (.int .i64 (v : Int))).setCell ⟨bl v, flp c, none⟩ (.int .i64 (u : Int))) (joinS s u c v)) := Lib.hid ⟨hb, P, _, vp, vq, bl, cs, hB2.of rfl rfl, hC2⟩
  have HBE : Hid (Below base w ((w.setCell ⟨bl u, c, none⟩ (.int .i64 (v : Int))).setCell ⟨bl v, flp c, none⟩ (.int .i64 (u : Int)))) := Lib.hid (((Below.refl base w).setCell hbu _).setCell hbv _)
  have hfe := flp_eq c (by omega)
  have hc0 : (0 : Int) ≤ (c : Int) := Int.natCast_nonneg _
  have hc1 : (c : Int) < ((s.t.row u).length : Int) := by omega
  have hf0 : (0 : Int) ≤ ((flp c : Nat) : Int) := Int.natCast_nonneg _
  have hf1 : ((flp c : Nat) : Int) < ((s.t.row v).length : Int) := by omega
  have hu0 : (0 : Int) ≤ (u : Int) := Int.natCast_nonneg _
  have hv0 : (0 : Int) ≤ (v : Int) := Int.natCast_nonneg _
  have hu1 : (u : Int) < (s.t.length : Int) := by omega
  have hv1 : (v : Int) < (s.t.length : Int) := by omega
  simp only [rowlen_set2] at q1
  clear hC hC1 hC2 hB hB1 hB2 hCu hCv hlen1 e' hI hlu hlv
  generalize (s.t.row u).length = lu at *
  generalize (s.t.row v).length = lv at *
  generalize s.t.at u c = x1 at *
  generalize ({ s with t := set2 s.t u c (v : Int) } : St).t.at v (flp c) = x2 at *
  go_enter Try.func112, Try.ntmps112
  go_wp2_with fail
  go_end0
  exact ⟨rfl, HST.out, HBE.out⟩
end Go.Proofs.B18
namespace Go.Proofs.B18
open Go.RowKit Go.Shelf Go.Proofs.Ct Go.Maps
theorem BoxP.grown {b wd lim : Nat} {w w' : World} {s : St} {vr vp vq : Value} (h : BoxP b wd lim w s vr vp vq) {o : Option Nat} (hg : w.grownBy w' o) (hn : o ≠ some b) : BoxP b wd lim w' s vr vp vq := ⟨(hg.block b h.lt (Ne.symm hn)).trans h.box⟩
theorem CoreM.ne_box {base b wd lim : Nat} {w : World} {s s' : St} {P : List Int} {vr vp vq v1 v2 v3 : Value} {bl cs : Nat → Nat} (h : CoreM base w s P vr vp vq bl cs) (hB : BoxP b wd lim w s' v1 v2 v3) : vp.ownBlock ≠ some b ∧ vq.ownBlock ≠ some b ∧ vr.ownBlock ≠ some b ∧ ∀ i, i < s.t.length → bl i ≠ b := by
  refine ⟨fun e => ?_, fun e => ?_, fun e => ?_, fun i hi e => ?_⟩
  · obtain ⟨-, C, hC⟩ := owns_block h.par b e
    rw [hB.box] at hC
    cases hC
  · obtain ⟨-, C, hC⟩ := owns_block h.que b e
    rw [hB.box] at hC
    cases hC
  · obtain ⟨-, C, hC⟩ := owns_block h.out b e
    rw [hB.box] at hC
    cases hC
  · obtain ⟨-, ⟨C, hC, -⟩, -⟩ := h.row i hi
    rw [e, hB.box] at hC
    cases hC
/-- what merging two classes writes -/
theorem merge_mem {g base b wd lim x y : Nat} {w : World} {s : St} {P : List Int} {vr vp vq : Value} {bl cs : Nat → Nat} (hI : Inv g s) (hb : base ≤ b) (hbw : base ≤ w.heap.size) (hB : BoxP b wd lim w s vr vp vq) (hC : CoreM base w s P vr vp vq bl cs) (hx : x < s.t.length) (hy : y < s.t.length) (hne : s.rp x ≠ s.rp y) (hq : s.q.length ≤ 1000000)
    (hi lo : Nat) (hhi : hi = max (s.rp x) (s.rp y)) (hlo : lo = min (s.rp x) (s.rp y)) :
    ∃ gp cp, vp = .slice (some ⟨gp, 0, none⟩) s.t.length cp ∧ w.cell? ⟨gp, hi, none⟩ = some (.int .i64 (P.getD hi 0)) ∧ w.frozen? ⟨gp, hi, none⟩ = false ∧ hi < s.t.length ∧
      (w.setCell ⟨gp, hi, none⟩ (.int .i64 (lo : Int))).cell? ⟨b, 4, none⟩ = some vq ∧ ∃ A c w4, (Builtin.append_ #[22, 22] 22 #[vq, .slice (some ⟨w.heap.size, 0, none⟩) 1 1]).run Try.prog ((w.setCell ⟨gp, hi, none⟩ (.int .i64 (lo : Int))).alloc (.cells #[.int .i64 (hi : Int)] 3)) = .ok (.slice A (s.q.length + 1) c) w4 ∧
        w4.cell? ⟨b, 4, none⟩ = some vq ∧ w4.frozen? ⟨b, 4, none⟩ = false ∧ (w4.setCell ⟨b, 4, none⟩ (.slice A (s.q.length + 1) c)).cell? ⟨b, 5, none⟩ = some (.int .i64 s.live) ∧ (w4.setCell ⟨b, 4, none⟩ (.slice A (s.q.length + 1) c)).frozen? ⟨b, 5, none⟩ = false ∧
        StP base b wd lim ((w4.setCell ⟨b, 4, none⟩ (.slice A (s.q.length + 1) c)).setCell ⟨b, 5, none⟩ (.int .i64 (s.live - 1))) (mergeS s x y) ∧ Below base w ((w4.setCell ⟨b, 4, none⟩ (.slice A (s.q.length + 1) c)).setCell ⟨b, 5, none⟩ (.int .i64 (s.live - 1))) := by
  have hR := hC.root.merge hI hx hy hne
  rw [← hhi, ← hlo] at hR
  have hmx : hi < s.t.length := by have := hI.rlt hx; have := hI.rlt hy; omega
  obtain ⟨gp, cp, rfl, hg1, -, hcc, hfz⟩ := ownI_cell hC.par (by rw [hC.len]; omega)
  rw [hC.len] at hcc
  obtain ⟨-, Cp, hCp⟩ := owns_block hC.par gp rfl
  have hC3 := hC.setP (g := gp) rfl (by rw [hC.len]; exact hmx) (lo : Int) (s' := { mergeS s x y with q := s.q }) (t_merge s x y) rfl (hR.of_rep rfl rfl)
  have hB3 := hB.other (g := gp) ⟨Cp, hCp⟩ (by decide) hi (.int .i64 (lo : Int))
  obtain ⟨-, -, -, -, d4, -, -⟩ := hB3.cells
  obtain ⟨A, c, w4, hrun, hC4, hgr⟩ := hC3.pushQ (by rw [World.size_setCell]; exact hbw) hi hq
  rw [World.size_setCell] at hrun
  obtain ⟨-, hnq, -, -⟩ := hC3.ne_box hB3
  have hB4 := hB3.grown hgr hnq
  obtain ⟨-, -, -, -, e4, -, -⟩ := hB4.cells
  have hB5 := hB4.upd4 (.slice A (s.q.length + 1) c) rfl rfl
  obtain ⟨-, -, -, -, -, f5, -⟩ := hB5.cells
  have hml : (mergeS s x y).live = s.live - 1 := by unfold mergeS; rw [if_neg hne]
  have hB6 := hB5.upd5 (s' := mergeS s x y) (z := s.live - 1) hml (most_merge s x y)
  have hC6 := (hC4.other hB4.box (by decide) (by decide) 4 (.slice A (s.q.length + 1) c)).other hB5.box (by decide) (by decide) 5 (.int .i64 (s.live - 1))
  have hse : ({ ({ mergeS s x y with q := s.q } : St) with q := s.q ++ [hi] } : St) = mergeS s x y := by
    unfold mergeS
    rw [if_neg hne, ← hhi]
  have hpl : P.length = s.t.length := hC.len
  refine ⟨gp, cp, by rw [hpl], hcc hi hmx, hfz hi, hmx, d4, A, c, w4, hrun, e4, hB4.frozen 4, f5, hB5.frozen 5, ⟨hb, P.set hi (lo : Int), _, _, _, bl, cs, hB6, ?_⟩, ?_⟩
  · have := hC6
    simp only at this
    rw [hse] at this
    exact this
  · have h1 : Below base w (w.setCell ⟨gp, hi, none⟩ (.int .i64 (lo : Int))) := (Below.refl base w).setCell hg1 _
    have h2 := h1.grown hgr (by rw [World.size_setCell]; exact hbw) (fun r hr => (owns_block hC.que r hr).1)
    exact (h2.setCell hb _).setCell hb _
end Go.Proofs.B18
namespace Go.Proofs.B18
open Go.RowKit Go.Shelf Go.Proofs.Ct Go.Maps
set_option maxRecDepth 100000 in
set_option maxHeartbeats 1000000 in
theorem merge155_any (g base b wd lim x y : Nat) (w : World) (s : St) (hI : Inv g s) (hS : StP base b wd lim w s) (hbw : base ≤ w.heap.size) (hx : x < s.t.length) (hy : y < s.t.length) (hn : s.t.length ≤ 1000000) (hq : s.q.length ≤ 1000000) (hl0 : -1000000 ≤ s.live) (hl1 : s.live ≤ 1000000) :
    Calls Try.prog 117 #[.pointer (some ⟨b, 0, none⟩), .int .i64 (x : Int), .int .i64 (y : Int)] w fun e w' => e = .returned (.tuple #[]) ∧ StP base b wd lim w' (mergeS s x y) ∧ Below base w w' := by
  have HX := Lib.hid fun W (h : StP base b wd lim W s) => find156_any g base b wd lim x W s hI h hx hn
  have HY := Lib.hid fun W (h : StP base b wd lim W s) => find156_any g base b wd lim y W s hI h hy hn
  have HS := Lib.hid hS
  have HI := Lib.hid hI
  have hrx := hI.rlt hx
  have hry := hI.rlt hy
  have HBW := Lib.hid hbw
  clear hS hI hbw
  by_cases hne : s.rp x = s.rp y
  · have HM : Hid (mergeS s x y = s) := Lib.hid (by unfold mergeS; rw [if_pos hne])
    generalize mergeS s x y = s' at *
    generalize s.rp x = a at *
    generalize s.rp y = c at *
    subst hne
    go_enter Try.func117, Try.ntmps117
    go_wp2_with (first
      | (go_at_call 118; (with_reducible refine (HX.out _ HS.out).mono ?_); rintro e w1 ⟨rfl, hs1, hb1⟩
         have HS1 := Lib.hid hs1
         have HB1 := Lib.hid hb1
         clear hs1 hb1 HX)
      | (go_at_call 118; (with_reducible refine (HY.out _ HS1.out).mono ?_); rintro e w2 ⟨rfl, hs2, hb2⟩
         have HS2 := Lib.hid hs2
         have HB2 := Lib.hid hb2
         clear hs2 hb2))
    try simp only [Exit.inBlock, Exit.then]
    refine bodyPost_ret (results_none rfl _ _ _) rfl ?_
    exact ⟨rfl, by rw [HM.out]; exact HS2.out, HB1.out.trans HB2.out⟩
  · have HM : Hid (∀ W, StP base b wd lim W s → base ≤ W.heap.size → ∃ P vr vp vq bl cs, BoxP b wd lim W s vr vp vq ∧ CoreM base W s P vr vp vq bl cs) := Lib.hid fun W h _ => by
      obtain ⟨-, P, vr, vp, vq, bl, cs, h1, h2⟩ := h
      exact ⟨P, vr, vp, vq, bl, cs, h1, h2⟩
    obtain ⟨hi, hhi⟩ : ∃ hi, hi = max (s.rp x) (s.rp y) := ⟨_, rfl⟩
    obtain ⟨lo, hlo⟩ : ∃ lo, lo = min (s.rp x) (s.rp y) := ⟨_, rfl⟩
    have HG := Lib.hid fun (W : World) (P : List Int) (vr vp vq : Value) (bl cs : Nat → Nat) (hb : base ≤ b) (hbw : base ≤ W.heap.size) (hB : BoxP b wd lim W s vr vp vq) (hC : CoreM base W s P vr vp vq bl cs) =>
      merge_mem HI.out hb hbw hB hC hx hy hne hq hi lo hhi hlo
    generalize mergeS s x y = s' at *
    generalize s.rp x = u at *
    generalize s.rp y = v at *
    have hu0 : (0 : Int) ≤ (u : Int) := Int.natCast_nonneg _
    have hv0 : (0 : Int) ≤ (v : Int) := Int.natCast_nonneg _
    have hdne : ((u : Int) == (v : Int)) = false := by rw [beq_eq_false_iff_ne]; omega
    have hq0 : (s.q.length : Int) ≤ 1000000 := by omega
    rcases Nat.lt_or_gt_of_ne hne with hlt | hlt
    · obtain rfl : hi = v := by omega
      obtain rfl : lo = u := by omega
      have hl1 : (lo : Int) < (hi : Int) := by omega
      have hl2 : ¬ (hi : Int) < (lo : Int) := by omega
      clear hhi hlo hlt hne
      go_enter Try.func117, Try.ntmps117
      go_wp2_with (first
        | (go_at_call 118; (with_reducible refine (HX.out _ HS.out).mono ?_); rintro e w1 ⟨rfl, hs1, hb1⟩
           have HS1 := Lib.hid hs1
           have HB1 := Lib.hid hb1
           clear hs1 hb1 HX)
        | (go_at_call 118; (with_reducible refine (HY.out _ HS1.out).mono ?_); rintro e w2 ⟨rfl, hs2, hb2⟩
           have HS2 := Lib.hid hs2
           have HB2 := Lib.hid hb2
           obtain ⟨hb, P, vr, vp, vq, bl, cs, h1, h2⟩ := hs2
           obtain ⟨-, -, -, c3, -, -, -⟩ := h1.cells
           obtain ⟨gp, cp, rfl, c5, c6, c7, c8, A, c, w4, hrun, c9, c10, c11, c12, hst, hbe⟩ := HG.out _ _ _ _ _ _ _ hb (Nat.le_trans HBW.out (HB1.out.trans hb2).size) h1 h2
           have HAPP := Lib.hid hrun
           have HST := Lib.hid hst
           have HBE := Lib.hid hbe
           clear h1 h2 hrun hst hbe hb2 HG)
        | ((with_reducible refine wpList_sel 37 ?_); refine wpList_val rfl (r_app (.tmp 32) (.tmp 36) 22 rfl rfl rfl HAPP.out) ?_))
      go_end0
      exact ⟨rfl, HST.out, HB1.out.trans (HB2.out.trans HBE.out)⟩
    · obtain rfl : hi = u := by omega
      obtain rfl : lo = v := by omega
      have hl1 : (lo : Int) < (hi : Int) := by omega
      have hl2 : ¬ (hi : Int) < (lo : Int) := by omega
      clear hhi hlo hlt hne
      go_enter Try.func117, Try.ntmps117
      go_wp2_with (first
        | (go_at_call 118; (with_reducible refine (HX.out _ HS.out).mono ?_); rintro e w1 ⟨rfl, hs1, hb1⟩
           have HS1 := Lib.hid hs1
           have HB1 := Lib.hid hb1
           clear hs1 hb1 HX)
        | (go_at_call 118; (with_reducible refine (HY.out _ HS1.out).mono ?_); rintro e w2 ⟨rfl, hs2, hb2⟩
           have HS2 := Lib.hid hs2
           have HB2 := Lib.hid hb2
           obtain ⟨hb, P, vr, vp, vq, bl, cs, h1, h2⟩ := hs2
           obtain ⟨-, -, -, c3, -, -, -⟩ := h1.cells
           obtain ⟨gp, cp, rfl, c5, c6, c7, c8, A, c, w4, hrun, c9, c10, c11, c12, hst, hbe⟩ := HG.out _ _ _ _ _ _ _ hb (Nat.le_trans HBW.out (HB1.out.trans hb2).size) h1 h2
           have HAPP := Lib.hid hrun
           have HST := Lib.hid hst
           have HBE := Lib.hid hbe
           clear h1 h2 hrun hst hbe hb2 HG)
        | ((with_reducible refine wpList_sel 37 ?_); refine wpList_val rfl (r_app (.tmp 32) (.tmp 36) 22 rfl rfl rfl HAPP.out) ?_))
      go_end0
      exact ⟨rfl, HST.out, HB1.out.trans (HB2.out.trans HBE.out)⟩
end Go.Proofs.B18
namespace Go.Proofs.B18
open Go.RowKit Go.Shelf Go.Proofs.Ct Go.Maps
/-- an element of the rows -/
theorem StP.at_ {g base b wd lim : Nat} {w : World} {s : St} (hI : Inv g s) (hS : StP base b wd lim w s) {r c : Nat} (hr : r < s.t.length) (hc : c < 2 * g) : ∃ gr cr br k, w.cell? ⟨b, 2, none⟩ = some (.slice (some ⟨gr, 0, none⟩) s.t.length cr) ∧ w.cell? ⟨gr, r, none⟩ = some (.slice (some ⟨br, 0, none⟩) (2 * g) k) ∧ w.cell? ⟨br, c, none⟩ = some (.int .i64 (s.t.at r c)) := by
  obtain ⟨-, P, vr, vp, vq, bl, cs, hB, hC⟩ := hS
  obtain ⟨gr, cr, rfl, r1, r2, r3⟩ := hC.at_ hr (c := c) (by rw [hI.len r hr]; exact hc)
  rw [hI.len r hr] at r1
  exact ⟨gr, cr, bl r, cs r, hB.cells.2.2.1, r1, r2⟩
theorem StP.width {base b wd lim : Nat} {w : World} {s : St} (hS : StP base b wd lim w s) : w.cell? ⟨b, 0, none⟩ = some (.int .i64 (wd : Int)) ∧ w.cell? ⟨b, 1, none⟩ = some (.int .i64 (lim : Int)) := by
  obtain ⟨-, P, vr, vp, vq, bl, cs, hB, -⟩ := hS
  exact ⟨hB.cells.1, hB.cells.2.1⟩
/-- the queue -/
theorem StP.que {base b wd lim : Nat} {w : World} {s : St} (hS : StP base b wd lim w s) : ∃ A c, w.cell? ⟨b, 4, none⟩ = some (.slice A s.q.length c) ∧ w.frozen? ⟨b, 4, none⟩ = false ∧ (0 < s.q.length → ∃ gq, A = some ⟨gq, 0, none⟩ ∧ ∀ k, k < s.q.length → w.cell? ⟨gq, k, none⟩ = some (.int .i64 (s.q.getD k 0 : Int))) ∧
    (base ≤ b → StP base b wd lim (w.setCell ⟨b, 4, none⟩ (.slice A 0 c)) { s with q := [] }) ∧ (A = none → s.q.length = 0 ∧ c = 0) ∧ (∀ a, A = some a → a.off = 0 ∧ a.spot = none) ∧ s.q.length ≤ c := by
  obtain ⟨hb, P, vr, vp, vq, bl, cs, hB, hC⟩ := hS
  obtain ⟨A, c, rfl⟩ : ∃ A c, vq = .slice A s.q.length c := by
    rcases hC.que.2 with ⟨h, h0⟩ | ⟨gq, cap, cur, h, -⟩
    · rw [length_nats] at h0; exact ⟨none, 0, by rw [h0]; exact h⟩
    · rw [length_nats] at h; exact ⟨_, cap, h⟩
  have hC0 : CoreM base w { s with q := [] } P vr vp (.slice A 0 c) bl cs := by
    refine ⟨hC.out, hC.row, hC.inj, hC.par, ?_, hC.sepP, fun i hi e => hC.sepQ i hi ?_, fun r hr e => hC.pq r hr ?_, hC.root.of_rep rfl rfl⟩
    · have h := hC.que
      unfold OwnI at h
      rw [length_nats] at h
      exact owns_take h (k := 0) (Nat.zero_le _)
    · cases A <;> exact e
    · cases A <;> exact e
  refine ⟨A, c, hB.cells.2.2.2.2.1, hB.frozen 4, fun h0 => ?_, fun _ => ⟨hb, P, vr, vp, _, bl, cs, (hB.upd4 (s' := { s with q := [] }) (.slice A 0 c) rfl rfl), hC0.other hB.box (by decide) (by decide) 4 _⟩, fun h => ?_, fun a h => ?_, ?_⟩
  · obtain ⟨gq, cq, e, -, -, hcc, -⟩ := ownI_cell hC.que (by rw [length_nats]; exact h0)
    rw [length_nats] at e hcc
    injection e with e1 e2 e3
    exact ⟨gq, e1, fun k hk => by have := hcc k hk; rwa [nats_getD] at this⟩
  · rcases hC.que.2 with ⟨h', h0⟩ | ⟨gq, cap, cur, h', -⟩
    · rw [length_nats] at h0
      injection h' with e1 e2 e3
      exact ⟨h0, e3⟩
    · injection h' with e1 e2 e3
      rw [h] at e1
      cases e1
  · rcases hC.que.2 with ⟨h', h0⟩ | ⟨gq, cap, cur, h', -⟩
    · injection h' with e1 e2 e3
      rw [h] at e1
      cases e1
    · injection h' with e1 e2 e3
      rw [h] at e1
      cases e1
      exact ⟨rfl, rfl⟩
  · rcases hC.que.2 with ⟨h', h0⟩ | ⟨gq, cap, cur, h', -, -, h1, -⟩
    · rw [length_nats] at h0; omega
    · injection h' with e1 e2 e3
      rw [length_nats] at h1
      omega
end Go.Proofs.B18
namespace Go.Proofs.Ct
open Go.Proofs.B18
theorem coinTo_stop (m : Nat) (s : St) {k : Nat} (h : (coinTo m k s).q.length ≤ k) : ∀ j, k ≤ j → coinTo m j s = coinTo m k s
  | 0, hj => by obtain rfl : k = 0 := by omega
                rfl
  | j + 1, hj => by
    rcases Nat.lt_or_ge j k with h' | h'
    · obtain rfl : k = j + 1 := by omega
      rfl
    · have ih := coinTo_stop m s h j h'
      have e : coinTo m (j + 1) s = (fun k s => if k < s.q.length then procTo (s.q.getD k 0) m s else s) j (coinTo m j s) := rfl
      rw [e, ih]
      exact if_neg (by omega)
theorem coinTo_succ (m k : Nat) (s : St) (h : k < (coinTo m k s).q.length) : coinTo m (k + 1) s = procTo ((coinTo m k s).q.getD k 0) m (coinTo m k s) := by
  have e : coinTo m (k + 1) s = (fun k s => if k < s.q.length then procTo (s.q.getD k 0) m s else s) k (coinTo m k s) := rfl
  rw [e]
  exact if_pos h
end Go.Proofs.Ct
