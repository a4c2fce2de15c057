/- The law's image of a word of permutations; Plain: what acts through a whole simplification; word.Cmp: words are compared by their lengths, then letter by letter; word.Cmp: words are compared by their lengths, then letter by letter. -/
import Derived.Test.YtmmbmhjdnlmedaaTsCS9
import Derived.BigQuiet
import Derived.Deep.CutBlock
import Derived.Deep.CutRange
import Derived.Test.YtmmbmhjdnlmedaaTsCS3
import Derived.Test.YtmmbmhjdnlmedaaTsCS7
import Derived.Sort.Grow
namespace Go.Proofs
open Go.RowKit Go.Shelf Go.Proofs.Ct Go.Maps
/-- the permutation of a word -/
def imgP (M : List (List Nat)) (d : Nat) (ws : Ct.W) : List Nat := (List.range d).map fun x => actW (actM M) x ws
theorem length_imgP (M : List (List Nat)) (d : Nat) (ws : Ct.W) : (imgP M d ws).length = d := by simp [imgP]
theorem imgP_nil (M : List (List Nat)) (d : Nat) : imgP M d [] = List.range d := by simp [imgP, actW]
theorem imgP_getD {M : List (List Nat)} {d x : Nat} {ws : Ct.W} (h : x < d) : (imgP M d ws).getD x 0 = actW (actM M) x ws := by
  unfold imgP
  rw [List.getD_eq_getElem?_getD, List.getElem?_map, List.getElem?_range h]
  rfl
/-- the first k entries of a list that is filled -/
def rowF (f : Nat → Nat) (d k : Nat) : List Int := (List.range d).map fun y => if y < k then ((f y : Nat) : Int) else 0
theorem length_rowF (f : Nat → Nat) (d k : Nat) : (rowF f d k).length = d := by simp [rowF]
theorem rowF_set (f : Nat → Nat) {d k : Nat} (_hk : k < d) : (rowF f d k).set k ((f k : Nat) : Int) = rowF f d (k + 1) := by
  apply List.ext_getElem
  · simp [rowF]
  · intro i h1 h2
    rw [List.getElem_set]
    by_cases e : k = i
    · subst e; simp [rowF]
    · rw [if_neg e]
      simp only [rowF, List.getElem_map, List.getElem_range]
      have : (i < k) = (i < k + 1) := by simp; omega
      simp only [this]
theorem rowF_full (f : Nat → Nat) (d : Nat) : rowF f d d = nz ((List.range d).map f) := by
  apply List.ext_getElem
  · simp [rowF, nz]
  · intro i h1 h2
    have : i < d := by simpa [rowF] using h1
    simp [rowF, nz, this]
theorem rowF_zero (f : Nat → Nat) (d : Nat) : rowF f d 0 = rowA d 0 := by
  unfold rowF rowA
  simp
theorem InvS.drewN {w wr : World} {g : Nat} {row : List Int} (h : InvS w g row wr) (n : Nat) : InvS w g row (wr.drewN n) := ⟨h.blk, h.ge, below_drewN h.below n⟩
theorem InvS.own {w wr : World} {g base : Nat} {row : List Int} (h : InvS w g row wr) (hb : base ≤ w.heap.size) (hl : row.length ≤ 1000) : OwnI base wr (.slice (some ⟨g, 0, none⟩) row.length row.length) row := by
  refine ⟨by rw [length_ints, Nat.mul_one], .inr ⟨g, row.length, _, rfl, Nat.le_trans hb h.ge, h.blk, Nat.le_refl _, by unfold maxLen; omega, by simp [ints], ?_⟩⟩
  rw [Nat.mul_one, List.take_of_length_le (by simp [ints])]
set_option maxRecDepth 100000 in
set_option maxHeartbeats 4000000 in
theorem image17_any (w : World) (vm vw : Value) (M : List (List Nat)) (d : Nat) (ws : Ct.W) (hd : 1 ≤ d ∧ d ≤ 6) (hM : ∀ a ∈ M, Prm d a) (hg : 1 ≤ M.length ∧ M.length ≤ 16) (hm : Tab w vm (M.map nz)) (hw : IntsAt w vw ws) (hok : LOk M.length ws) :
    Calls Try.prog 17 #[vm, vw] w fun e w' => (∃ A c, e = .returned (.slice A d c) ∧ IntsAt w' (.slice A d c) (nz (imgP M d ws)) ∧ OwnI w.heap.size w' (.slice A d c) (nz (imgP M d ws))) ∧ Below w.heap.size w w' := by
  obtain ⟨bm, om, cm, rfl, hrow⟩ := rows_at hm hM hd.1 (by omega)
  obtain ⟨Aw, cw, rfl, hw1, hw2, hwc⟩ := hw.open_
  have HROW : Hid (∀ q, q < M.length → ∃ bq oq cq, ∀ W, Below w.heap.size w W → W.cell? ⟨bm, om + q, none⟩ = some (.slice (some ⟨bq, oq, none⟩) d cq) ∧ ∀ y, y < d → W.cell? ⟨bq, oq + y, none⟩ = some (.int .i64 (((M.getD q []).getD y 0 : Nat) : Int))) := Lib.hid fun q hq => by
    obtain ⟨bq, oq, cq, h1, h2⟩ := hrow q hq
    refine ⟨bq, oq, cq, fun W h => ?_⟩
    obtain ⟨A', c', e', -, -, hcc⟩ := (h2.below h).open_
    rw [length_nz, (row_prm hM hq).len] at e' hcc
    obtain ⟨rfl, -, rfl⟩ := Value.slice.inj e'
    obtain ⟨b', o', e2, hc⟩ := hcc (by omega)
    injection e2 with e2
    injection e2 with e3 e4
    subst e3 e4
    exact ⟨(h.cell (p := ⟨bm, om + q, none⟩) (World.block_lt_of_cell? w _ h1)).trans h1, fun y hy => by rw [← nz_getD]; exact hc y hy⟩
  have HWC : Hid (0 < ws.length → ∃ bu ou, Aw = some ⟨bu, ou, none⟩ ∧ ∀ W, Below w.heap.size w W → ∀ j, j < ws.length → W.cell? ⟨bu, ou + j, none⟩ = some (.int .i64 (ws.getD j 0))) := Lib.hid fun h0 => by
    obtain ⟨bu, ou, rfl, hc⟩ := hwc h0
    exact ⟨bu, ou, rfl, fun W h j hj => (h.cell (p := ⟨bu, ou + j, none⟩) (World.block_lt_of_cell? w _ (hc j hj))).trans (hc j hj)⟩
  have HOK : Hid (∀ j, j < ws.length → ∃ q, q < M.length ∧ (ws.getD j 0 = (q : Int) + 1 ∨ ws.getD j 0 = -((q : Int) + 1))) := Lib.hid fun j hj => by
    have := hok (ws.getD j 0) (by rw [List.getD_eq_getElem?_getD, List.getElem?_eq_getElem hj]; exact List.getElem_mem hj)
    rcases Int.lt_or_lt_of_ne this.2.2 with h | h
    · exact ⟨(-(ws.getD j 0) - 1).toNat, by omega, .inr (by omega)⟩
    · exact ⟨((ws.getD j 0) - 1).toNat, by omega, .inl (by omega)⟩
  have HLT : Hid (∀ x, x < d → ∀ j, actW (actM M) x (ws.take j) < d) := Lib.hid fun x hx j => actWM_lt hM _ hx fun z hz => hok z (List.mem_of_mem_take hz)
  have HPR : Hid (∀ q, q < M.length → Prm d (M.getD q [])) := Lib.hid fun q hq => row_prm hM hq
  have hd0 : (1 : Int) ≤ (d : Int) := by omega
  have hd6 : (d : Int) ≤ 6 := by omega
  have hg0 : (1 : Int) ≤ (M.length : Int) := by omega
  have hg6 : (M.length : Int) ≤ 16 := by omega
  have hw0 : (0 : Int) ≤ (ws.length : Int) := Int.natCast_nonneg _
  have hwl : (ws.length : Int) ≤ 9223372036854775807 := by omega
  clear hrow hm hw hwc hok hM
  go_enter Try.func17, Try.ntmps17
  go_wp2_with fail
  go_loopw [5, 6] (fun vl i wr => ∃ k : Nat, i = .int .i64 (k : Int) ∧ k ≤ d ∧ ∃ A c, vl = .slice A k c ∧ Hid (OwnI w.heap.size wr vl (nz (List.range k)) ∧ Below w.heap.size w wr)) (fun _ i _ => d - (intOf i).toNat)
  case atStart => exact ⟨0, rfl, Nat.zero_le _, none, 0, rfl, Lib.hid ⟨World.ownsRow_nil _ _ _ _, Below.refl _ _⟩⟩
  case round =>
    obtain ⟨k, rfl, hk, A, c, rfl, HPS⟩ := hrel
    have hk0 : (0 : Int) ≤ (k : Int) := Int.natCast_nonneg _
    obtain ⟨b0, o0, c0, hr0⟩ := HROW.out 0 (by omega)
    have x1 := (hr0 wr HPS.out.2).1
    rw [Nat.add_zero] at x1
    clear hr0
    by_cases hkd : k < d
    · have hkd' : (k : Int) < (d : Int) := by omega
      obtain ⟨A6, c6, w6, hr6, hP6, hg6', -⟩ := push_int 40 40 Try.underlying40 wr w.heap.size _ _ HPS.out.1 (k : Int) (by rw [length_nz, List.length_range]; omega) HPS.out.2.size
      rw [length_nz, List.length_range] at hr6 hP6
      have HR6 := Lib.hid hr6
      have HP6 : Hid (OwnI w.heap.size w6 (.slice A6 (k + 1) c6) (nz (List.range (k + 1))) ∧ Below w.heap.size w w6) := Lib.hid ⟨by rw [List.range_succ, nz_app]; exact hP6, HPS.out.2.grown hg6' HPS.out.2.size fun r hr => (owns_block HPS.out.1 r hr).1⟩
      clear hr6 hP6 hg6' HPS
      go_wp2_with (first
        | ((with_reducible refine wpList_sel 23 ?_); refine wpList_val rfl (r_app (.tmp 20) (.tmp 22) 40 rfl rfl rfl HR6.out) ?_))
      go_roundw
      case rel => exact ⟨k + 1, by go_num, by omega, A6, c6, rfl, HP6⟩
      case measure => simp [intOf]; omega
    · obtain rfl : d = k := by omega
      have HI0 : Hid (IntsAt wr (.slice A d c) (nz (imgP M d (ws.take 0))) ∧ Below w.heap.size w wr ∧ OwnI w.heap.size wr (.slice A d c) (nz (imgP M d (ws.take 0)))) := Lib.hid ⟨by
        rw [List.take_zero, imgP_nil]
        exact OwnI.ints HPS.out.1 (fits_nz fun x hx => by have := List.mem_range.1 hx; omega), HPS.out.2, by rw [List.take_zero, imgP_nil]; exact HPS.out.1⟩
      clear HPS
      go_wp2_with fail
      clear x1
      go_loopw [5, 7] (fun vo i wr => ∃ j : Nat, i = .int .i64 (j : Int) ∧ j ≤ ws.length ∧ ∃ A c, vo = .slice A d c ∧ Hid (IntsAt wr (.slice A d c) (nz (imgP M d (ws.take j))) ∧ Below w.heap.size w wr ∧ OwnI w.heap.size wr (.slice A d c) (nz (imgP M d (ws.take j))))) (fun _ i _ => ws.length - (intOf i).toNat)
      case atStart => exact ⟨0, rfl, Nat.zero_le _, A, c, rfl, HI0⟩
      case round =>
        clear HI0
        obtain ⟨j, rfl, hj, A, c, rfl, HPS⟩ := hrel
        have hj0 : (0 : Int) ≤ (j : Int) := Int.natCast_nonneg _
        by_cases hjl : j < ws.length
        · have hjl' : (j : Int) < (ws.length : Int) := by omega
          obtain ⟨q, hq, hx⟩ := HOK.out j hjl
          obtain ⟨bq, oq, cq, hcq⟩ := HROW.out q hq
          obtain ⟨bu, ou, rfl, hcw⟩ := HWC.out (by omega)
          have x2 := (hcq wr HPS.out.2.1).1
          have x1 := hcw wr HPS.out.2.1 j hjl
          have HCW : Hid (∀ W, Below w.heap.size w W → W.cell? ⟨bu, ou + j, none⟩ = some (.int .i64 (ws.getD j 0))) := Lib.hid fun W h => hcw W h j hjl
          have HCQ : Hid (∀ W, Below w.heap.size w W → ∀ y, y < d → W.cell? ⟨bq, oq + y, none⟩ = some (.int .i64 (((M.getD q []).getD y 0 : Nat) : Int))) := Lib.hid fun W h => (hcq W h).2
          clear hcq hcw
          have hq0 : (0 : Int) ≤ (q : Int) := Int.natCast_nonneg _
          have hq1 : (q : Int) < (M.length : Int) := by omega
          generalize hxx : ws.getD j 0 = x at *
          have HXX := Lib.hid hxx
          clear hxx
          have HQP := Lib.hid (HPR.out q hq)
          have HHL : Hid (∀ y, y < d → actW (actM M) y (ws.take j) < d) := Lib.hid fun y hy => HLT.out y hy j
          have HHO : Hid (∀ W, IntsAt W (.slice A d c) (nz (imgP M d (ws.take j))) → ∃ bo oo, A = some ⟨bo, oo, none⟩ ∧ ∀ y, y < d → W.cell? ⟨bo, oo + y, none⟩ = some (.int .i64 ((actW (actM M) y (ws.take j) : Nat) : Int))) := Lib.hid fun W h => by
            obtain ⟨A', c', e', -, -, hcc⟩ := h.open_
            rw [length_nz, length_imgP] at e' hcc
            obtain ⟨rfl, -, rfl⟩ := Value.slice.inj e'
            obtain ⟨bo, oo, rfl, hc⟩ := hcc (by omega)
            exact ⟨bo, oo, rfl, fun y hy => by rw [← imgP_getD hy, ← nz_getD]; exact hc y hy⟩
          have HFE : Hid (∀ W v, IntsAt W v (nz ((List.range d).map fun y => actW (actM M) y (ws.take (j + 1)))) → IntsAt W v (nz (imgP M d (ws.take (j + 1))))) := Lib.hid fun W v h => h
          have HFO : Hid (∀ W v, OwnI w.heap.size W v (nz ((List.range d).map fun y => actW (actM M) y (ws.take (j + 1)))) → OwnI w.heap.size W v (nz (imgP M d (ws.take (j + 1))))) := Lib.hid fun W v h => h
          have HFL : Hid (∀ y, y < d → actW (actM M) y (ws.take (j + 1)) < d) := Lib.hid fun y hy => HLT.out y hy (j + 1)
          have HFS : Hid (∀ y, actW (actM M) y (ws.take (j + 1)) = actM M (actW (actM M) y (ws.take j)) (col (ws.getD j 0))) := Lib.hid fun y => actW_take hjl
          rw [HXX.out] at HFS
          rcases hx with rfl | rfl
          · have d1 : ((q : Int) + 1 == 0) = false := by rw [beq_eq_false_iff_ne]; omega
            have d2 : decide ((M.length : Int) < (q : Int) + 1) = false := decide_eq_false (by omega)
            have d3 : decide ((q : Int) + 1 < -(M.length : Int)) = false := decide_eq_false (by omega)
            have d4 : decide (0 < (q : Int) + 1) = true := decide_eq_true (by omega)
            have HFQ : Hid (∀ y, actW (actM M) y (ws.take (j + 1)) = (M.getD q []).getD (actW (actM M) y (ws.take j)) 0) := Lib.hid fun y => by rw [HFS.out y]; exact actM_pos rfl
            clear HFS
            go_upto_region 11 with fail
            go_quiet (fail)
            obtain ⟨wq, hwq⟩ : ∃ wq, wq = wr.drewN nq := ⟨_, rfl⟩
            rw [← hwq]
            have HPQ : Hid (IntsAt wq (.slice A d c) (nz (imgP M d (ws.take j))) ∧ Below w.heap.size w wq) := Lib.hid (by rw [hwq]; exact ⟨HPS.out.1.drewN nq, below_drewN HPS.out.2.1 nq⟩)
            have HBW : Hid (∀ W, Below wq.heap.size wq W → Below w.heap.size w W) := Lib.hid fun W h => HPQ.out.2.trans (h.mono HPQ.out.2.size)
            obtain ⟨bo, oo, rfl, -⟩ := HHO.out wq HPQ.out.1
            have HHC : Hid (∀ W, Below wq.heap.size wq W → ∀ y, y < d → W.cell? ⟨bo, oo + y, none⟩ = some (.int .i64 ((actW (actM M) y (ws.take j) : Nat) : Int))) := Lib.hid fun W h y hy => by
              obtain ⟨b', o', e', hc⟩ := HHO.out W (HPQ.out.1.below h)
              injection e' with e'
              injection e' with e3 e4
              subst e3 e4
              exact hc y hy
            clear hwq HPS HHO x1 x2
            generalize (M.getD q []) = ga at *
            have HM := Lib.hid (make81r wq d (by omega))
            have x0 := HM.out
            have HS : Hid (InvS wq wq.heap.size (rowF (fun y => actW (actM M) y (ws.take (j + 1))) d 0) (wq.alloc (.cells (Array.replicate d (.int .i64 0)) 3))) := Lib.hid (by rw [rowF_zero]; exact InvS.start wq d)
            generalize hff : (fun y => actW (actM M) y (ws.take (j + 1))) = f at *
            have HFQ' : Hid (∀ y, f y = ga.getD (actW (actM M) y (ws.take j)) 0) := Lib.hid fun y => by rw [← hff]; exact HFQ.out y
            have HFL' : Hid (∀ y, y < d → f y < d) := Lib.hid fun y hy => by rw [← hff]; exact HFL.out y hy
            clear hff HFQ HFL
            generalize wq.alloc (.cells (Array.replicate d (.int .i64 0)) 3) = w9 at *
            go_wp2_with fail
            go_loopw [10] (fun i wr3 => ∃ k : Nat, i = .int .i64 (k : Int) ∧ k ≤ d ∧ Hid (InvS wq wq.heap.size (rowF f d k) wr3)) (fun i _ => d - (intOf i).toNat)
            case atStart => exact ⟨0, rfl, Nat.zero_le _, HS⟩
            case round =>
              clear x0 HM HS
              obtain ⟨k, rfl, hk, HR⟩ := hrel
              have hk0 : (0 : Int) ≤ (k : Int) := Int.natCast_nonneg _
              by_cases hkd : k < d
              · have hkd' : (k : Int) < (d : Int) := by omega
                have x1 := HCW.out wr (HBW.out wr HR.out.below)

                have x2 := HHC.out wr HR.out.below k hkd
                have hh := HHL.out k hkd
                have HFK := Lib.hid (HFQ'.out k)
                have x3 := HCQ.out wr (HBW.out wr HR.out.below) _ hh
                have x4 := HR.out.at_ (k := k) (by rw [length_rowF]; exact hkd)
                have x5 := frozen_row HR.out.blk k
                have HN : Hid (InvS wq wq.heap.size (rowF f d (k + 1)) (wr.setCell ⟨wq.heap.size, k, none⟩ (.int .i64 ((ga.getD (actW (actM M) k (ws.take j)) 0 : Nat) : Int)))) := Lib.hid (by rw [← HFK.out, ← rowF_set f hkd]; exact HR.out.set _)
                clear HR
                generalize actW (actM M) k (ws.take j) = hy at *
                generalize ga.getD hy 0 = gy at *
                have hy0 : (0 : Int) ≤ (hy : Int) := Int.natCast_nonneg _
                have hy1 : (hy : Int) < (d : Int) := by omega
                go_wp2_with fail
                go_roundw
                case rel => exact ⟨k + 1, by go_num, by omega, HN⟩
                case measure => simp [intOf]; omega
              · obtain rfl : d = k := by omega
                have HF : Hid (IntsAt wr (.slice (some ⟨wq.heap.size, 0, none⟩) d d) (nz ((List.range d).map f)) ∧ Below w.heap.size w wr ∧ OwnI w.heap.size wr (.slice (some ⟨wq.heap.size, 0, none⟩) d d) (nz ((List.range d).map f))) := Lib.hid (by
                  have h1 := HR.out
                  rw [rowF_full] at h1
                  have h2 := h1.intsAt (fits_nz fun x hx => by
                    obtain ⟨y, hy, rfl⟩ := List.mem_map.1 hx
                    have := HFL'.out y (List.mem_range.1 hy)
                    omega) (by rw [length_nz]; simp; omega)
                  have e : (nz ((List.range d).map f)).length = d := by rw [length_nz]; simp
                  have h3 := h1.own (base := w.heap.size) HPQ.out.2.size (by rw [length_nz]; simp; omega)
                  rw [e] at h2 h3
                  exact ⟨h2, HBW.out _ h1.below, h3⟩)
                clear HR
                go_wp2_with fail
                go_roundw
                case rel => exact ⟨j + 1, by go_num, by omega, _, _, rfl, Lib.hid ⟨HFE.out _ _ HF.out.1, HF.out.2.1, HFO.out _ _ HF.out.2.2⟩⟩
                case measure => simp [intOf]; omega
          · have d1 : (-((q : Int) + 1) == 0) = false := by rw [beq_eq_false_iff_ne]; omega
            have d2 : decide ((M.length : Int) < -((q : Int) + 1)) = false := decide_eq_false (by omega)
            have d3 : decide (-((q : Int) + 1) < -(M.length : Int)) = false := decide_eq_false (by omega)
            have d4 : decide (0 < -((q : Int) + 1)) = false := decide_eq_false (by omega)
            have HFQ : Hid (∀ y, actW (actM M) y (ws.take (j + 1)) = (M.getD q []).idxOf (actW (actM M) y (ws.take j))) := Lib.hid fun y => by rw [HFS.out y]; exact actM_neg rfl
            clear HFS
            go_upto_region 11 with fail
            go_quiet (fail)
            obtain ⟨wq, hwq⟩ : ∃ wq, wq = wr.drewN nq := ⟨_, rfl⟩
            rw [← hwq]
            have HPQ : Hid (IntsAt wq (.slice A d c) (nz (imgP M d (ws.take j))) ∧ Below w.heap.size w wq) := Lib.hid (by rw [hwq]; exact ⟨HPS.out.1.drewN nq, below_drewN HPS.out.2.1 nq⟩)
            have HBW : Hid (∀ W, Below wq.heap.size wq W → Below w.heap.size w W) := Lib.hid fun W h => HPQ.out.2.trans (h.mono HPQ.out.2.size)
            obtain ⟨bo, oo, rfl, -⟩ := HHO.out wq HPQ.out.1
            have HHC : Hid (∀ W, Below wq.heap.size wq W → ∀ y, y < d → W.cell? ⟨bo, oo + y, none⟩ = some (.int .i64 ((actW (actM M) y (ws.take j) : Nat) : Int))) := Lib.hid fun W h y hy => by
              obtain ⟨b', o', e', hc⟩ := HHO.out W (HPQ.out.1.below h)
              injection e' with e'
              injection e' with e3 e4
              subst e3 e4
              exact hc y hy
            clear hwq HPS HHO x1 x2
            generalize (M.getD q []) = ga at *
            have HM := Lib.hid (make81r wq d (by omega))
            have x0 := HM.out
            have HS : Hid (InvS wq wq.heap.size (rowF (fun y => actW (actM M) y (ws.take (j + 1))) d 0) (wq.alloc (.cells (Array.replicate d (.int .i64 0)) 3))) := Lib.hid (by rw [rowF_zero]; exact InvS.start wq d)
            generalize hff : (fun y => actW (actM M) y (ws.take (j + 1))) = f at *
            have HFQ' : Hid (∀ y, f y = ga.idxOf (actW (actM M) y (ws.take j))) := Lib.hid fun y => by rw [← hff]; exact HFQ.out y
            have HFL' : Hid (∀ y, y < d → f y < d) := Lib.hid fun y hy => by rw [← hff]; exact HFL.out y hy
            clear hff HFQ HFL
            generalize wq.alloc (.cells (Array.replicate d (.int .i64 0)) 3) = w9 at *
            go_wp2_with fail
            go_loopw [10] (fun i wr3 => ∃ k : Nat, i = .int .i64 (k : Int) ∧ k ≤ d ∧ Hid (InvS wq wq.heap.size (rowF f d k) wr3)) (fun i _ => d - (intOf i).toNat)
            case atStart => exact ⟨0, rfl, Nat.zero_le _, HS⟩
            case round =>
              clear x0 HM HS
              obtain ⟨k, rfl, hk, HR⟩ := hrel
              have hk0 : (0 : Int) ≤ (k : Int) := Int.natCast_nonneg _
              by_cases hkd : k < d
              · have hkd' : (k : Int) < (d : Int) := by omega
                have x1 := HCW.out wr (HBW.out wr HR.out.below)

                have x2 := HHC.out wr HR.out.below k hkd
                have hh := HHL.out k hkd
                have HFK := Lib.hid (HFQ'.out k)
                have HS4 : Hid (InvS wq wq.heap.size (rowF f d (if f k < 0 then k + 1 else k)) wr) := Lib.hid (by rw [if_neg (by omega)]; exact HR.out)
                have HBK := HQP.out.back hh
                rw [← HFK.out] at HBK
                have HIN : Hid (∀ y, y < d → ga.getD y 0 = actW (actM M) k (ws.take j) → y = f k) := Lib.hid fun y hy e => by rw [HFK.out, ← e, HQP.out.back_get hy]
                clear HR
                have HHK : Hid (∀ W, Below wq.heap.size wq W → W.cell? ⟨bo, oo + k, none⟩ = some (.int .i64 ((actW (actM M) k (ws.take j) : Nat) : Int))) := Lib.hid fun W h => HHC.out W h k hkd
                have HBQ := Lib.hid HBK
                clear HBK x2
                generalize actW (actM M) k (ws.take j) = hy at *
                have hy0 : (0 : Int) ≤ (hy : Int) := Int.natCast_nonneg _
                have hy1 : (hy : Int) < (d : Int) := by omega
                go_wp2_with fail
                clear x1
                go_loopw [11] (fun i wr4 => ∃ y : Nat, i = .int .i64 (y : Int) ∧ y ≤ d ∧ Hid (InvS wq wq.heap.size (rowF f d (if f k < y then k + 1 else k)) wr4)) (fun i _ => d - (intOf i).toNat)
                case atStart => exact ⟨0, rfl, Nat.zero_le _, HS4⟩
                case round =>
                  clear HS4
                  obtain ⟨y, rfl, hyl, HR⟩ := hrel
                  have hyy : (0 : Int) ≤ (y : Int) := Int.natCast_nonneg _
                  by_cases hyd : y < d
                  · have hyd' : (y : Int) < (d : Int) := by omega
                    have x3 := HCQ.out wr (HBW.out wr HR.out.below) y hyd
                    have x2 := HHK.out wr HR.out.below
                    by_cases he : y = f k
                    · have HN : Hid (∀ n, (wr.drewN n).cell? ⟨wq.heap.size, k, none⟩ = some (.int .i64 ((rowF f d k).getD k 0)) ∧ (wr.drewN n).frozen? ⟨wq.heap.size, k, none⟩ = false ∧ InvS wq wq.heap.size (rowF f d (if f k < y + 1 then k + 1 else k)) ((wr.drewN n).setCell ⟨wq.heap.size, k, none⟩ (.int .i64 (y : Int)))) := Lib.hid fun n => by
                        have h := HR.out.drewN n
                        rw [if_neg (by omega)] at h
                        refine ⟨h.at_ (by rw [length_rowF]; exact hkd), frozen_row h.blk k, ?_⟩
                        rw [if_pos (by omega), ← rowF_set f hkd, he]
                        exact h.set _
                      have e5 : ga.getD y 0 = hy := by rw [he]; exact HBQ.out.2
                      rw [e5] at x3
                      clear e5 HR he
                      have d5 : ((hy : Int) == (hy : Int)) = true := by simp
                      go_wp2_with fail
                      go_quiet (fail)
                      obtain ⟨x4, x5, hn⟩ := HN.out nq
                      have HN' := Lib.hid hn
                      clear hn x2 x3
                      go_wp2_with fail
                      go_roundw
                      case rel => exact ⟨y + 1, by go_num, by omega, HN'⟩
                      case measure => simp [intOf]; omega
                    · have HN : Hid (∀ n, InvS wq wq.heap.size (rowF f d (if f k < y + 1 then k + 1 else k)) (wr.drewN n)) := Lib.hid fun n => by
                        have h := HR.out.drewN n
                        have : (f k < y) = (f k < y + 1) := by simp; omega
                        simp only [this] at h
                        exact h
                      have hne : ga.getD y 0 ≠ hy := fun e => he (HIN.out y hyd e)
                      have d5 : (((ga.getD y 0 : Nat) : Int) == (hy : Int)) = false := by rw [beq_eq_false_iff_ne]; omega
                      clear HR he hne
                      generalize ga.getD y 0 = gy at *
                      go_wp2_with fail
                      go_quiet (fail)
                      clear x2 x3
                      go_wp2_with fail
                      go_roundw
                      case rel => exact ⟨y + 1, by go_num, by omega, Lib.hid (HN.out _)⟩
                      case measure => simp [intOf]; omega
                  · obtain rfl : d = y := by omega
                    have HN : Hid (InvS wq wq.heap.size (rowF f d (k + 1)) wr) := Lib.hid (by
                      have h := HR.out
                      rwa [if_pos HBQ.out.1] at h)
                    clear HR
                    go_wp2_with fail
                    go_roundw
                    case rel => exact ⟨k + 1, by go_num, by omega, HN⟩
                    case measure => simp [intOf]; omega
              · obtain rfl : d = k := by omega
                have HF : Hid (IntsAt wr (.slice (some ⟨wq.heap.size, 0, none⟩) d d) (nz ((List.range d).map f)) ∧ Below w.heap.size w wr ∧ OwnI w.heap.size wr (.slice (some ⟨wq.heap.size, 0, none⟩) d d) (nz ((List.range d).map f))) := Lib.hid (by
                  have h1 := HR.out
                  rw [rowF_full] at h1
                  have h2 := h1.intsAt (fits_nz fun x hx => by
                    obtain ⟨y, hy, rfl⟩ := List.mem_map.1 hx
                    have := HFL'.out y (List.mem_range.1 hy)
                    omega) (by rw [length_nz]; simp; omega)
                  have e : (nz ((List.range d).map f)).length = d := by rw [length_nz]; simp
                  have h3 := h1.own (base := w.heap.size) HPQ.out.2.size (by rw [length_nz]; simp; omega)
                  rw [e] at h2 h3
                  exact ⟨h2, HBW.out _ h1.below, h3⟩)
                clear HR
                go_wp2_with fail
                go_roundw
                case rel => exact ⟨j + 1, by go_num, by omega, _, _, rfl, Lib.hid ⟨HFE.out _ _ HF.out.1, HF.out.2.1, HFO.out _ _ HF.out.2.2⟩⟩
                case measure => simp [intOf]; omega
        · obtain rfl : j = ws.length := by omega
          rw [List.take_length] at HPS
          go_wp2_with fail
          go_ret
          exact ⟨⟨A, c, rfl, HPS.out.1, HPS.out.2.2⟩, HPS.out.2.1⟩
end Go.Proofs
namespace Go.Proofs.Tz
open Go.Proofs.Ct (W red inv mulW invW opp foldTo push redTo LOk Mdl actW actW_app col flp)
section
variable {α : Type} {D : α → Prop}
theorem firstE_parts {n : Nat} {rels : List W} {q : List W × List W} {gen : Nat} (h : firstE n rels = some (q, gen)) : ∃ i, i < rels.length ∧ 1 ≤ gen ∧ gen ≤ n ∧ elimE n rels i gen = .inl q := by
  unfold firstE at h
  obtain ⟨i, h1, h2⟩ := List.exists_of_findSome?_eq_some h
  obtain ⟨g, h3, h4⟩ := List.exists_of_findSome?_eq_some h2
  obtain ⟨j, h5, rfl⟩ := List.mem_map.1 h3
  rw [List.mem_range] at h1 h5
  split at h4
  · rename_i q' hq
    injection h4 with h4
    injection h4 with e1 e2
    subst e1 e2
    exact ⟨i, h1, by omega, by omega, hq⟩
  · cases h4
/-- the steps: an elimination or a shortening -/
inductive Step : Sp → Sp → Prop where
  | elim {s : Sp} {q : List W × List W} {i gen : Nat} {l : List W} (hi : i < s.rels.length) (h1 : 1 ≤ gen) (h2 : gen ≤ s.n) (e : elimE s.n s.rels i gen = .inl q) (hl : sbL q.2 s.into = some l) : Step s ⟨s.n - 1, q.1, l, s.back.eraseIdx (gen - 1)⟩
  | short {s : Sp} {l : List W} (e : shortF s.rels = some l) : Step s { s with rels := l }
/-- a state in order -/
structure Okay (n0 : Nat) (s : Sp) : Prop where
  cln : Cln s.n s.rels
  il : s.into.length = n0
  io : ∀ w ∈ s.into, LOk s.n w
  bl : s.back.length = s.n
  bb : ∀ j, j < s.n → ∃ i, i < n0 ∧ s.back.getD j 0 = (i : Int) + 1
theorem getD_eraseI (l : List Int) (k j : Nat) : (l.eraseIdx k).getD j 0 = if j < k then l.getD j 0 else l.getD (j + 1) 0 := by
  simp only [List.getD_eq_getElem?_getD, List.getElem?_eraseIdx]
  split <;> rfl
theorem Okay.step {n0 : Nat} {s s' : Sp} (h : Okay n0 s) (k : Step s s') : Okay n0 s' := by
  cases k with
  | @elim q i gen l hi h1 h2 e hl =>
    obtain ⟨a, hC, b, hio, c⟩ := elim_cln h.cln.vld hi ⟨h1, h2⟩ (l := q.1) (im := q.2) e
    obtain ⟨rfl, -⟩ := sbL_some hl
    refine ⟨hC, by rw [List.length_map]; exact h.il, fun w hw => ?_, ?_, fun j hj => ?_⟩
    · obtain ⟨z, -, rfl⟩ := List.mem_map.1 hw
      exact sbTo_ok hio z _
    · show (s.back.eraseIdx (gen - 1)).length = s.n - 1
      rw [List.length_eraseIdx, h.bl, if_pos (by omega)]
    · show ∃ i, i < n0 ∧ (s.back.eraseIdx (gen - 1)).getD j 0 = _
      rw [getD_eraseI]
      have hj' : j < s.n - 1 := hj
      split
      · exact h.bb j (by omega)
      · exact h.bb (j + 1) (by omega)
  | short e => exact ⟨short_cln h.cln e, h.il, h.io, h.bl, h.bb⟩
/-- how a state's generators act, against the first ones -/
structure Fit (act0 : α → Nat → α) (D : α → Prop) (n0 : Nat) (s : Sp) (act : α → Nat → α) : Prop where
  m : Mdl s.n [] D act
  fx : ∀ w ∈ s.rels, Fix D act w
  ie : ∀ i, i < n0 → ∀ p, D p → actW act p (s.into.getD i []) = act0 p (2 * i)
  be : ∀ j, j < s.n → ∃ i, i < n0 ∧ s.back.getD j 0 = (i : Int) + 1 ∧ ∀ p, D p → act p (2 * j) = act0 p (2 * i)
theorem getD_mapW (f : W → W) {l : List W} {i : Nat} (hi : i < l.length) : (l.map f).getD i [] = f (l.getD i []) := by
  simp [List.getD_eq_getElem?_getD, hi]
theorem Fit.step {act0 act : α → Nat → α} {n0 : Nat} {s s' : Sp} (hO : Okay n0 s) (h : Fit act0 D n0 s act) (k : Step s s') : ∃ act', Fit act0 D n0 s' act' := by
  cases k with
  | @elim q i gen l hi h1 h2 e hl =>
    obtain ⟨f1, f2, f3⟩ := elim_fwd h.m hO.cln.vld hi ⟨h1, h2⟩ (l := q.1) (im := q.2) e h.fx
    obtain ⟨a, hC, hil, hio, c⟩ := elim_cln hO.cln.vld hi ⟨h1, h2⟩ (l := q.1) (im := q.2) e
    obtain ⟨rfl, -⟩ := sbL_some hl
    refine ⟨fun p c => act p (upC gen c), f1, f2, fun i hi p hp => ?_, fun j hj => ?_⟩
    · show actW _ p ((s.into.map (sbW q.2)).getD i []) = _
      have hi' : i < s.into.length := by rw [hO.il]; exact hi
      rw [getD_mapW _ hi', sb_act h.m f1 hil hio f3 (hO.io _ (getD_mem' hi')) hp]
      exact h.ie i hi p hp
    · have hj' : j < s.n - 1 := hj
      show ∃ i, i < n0 ∧ (s.back.eraseIdx (gen - 1)).getD j 0 = _ ∧ ∀ p, D p → act p (upC gen (2 * j)) = _
      rw [getD_eraseI]
      by_cases hq : j < gen - 1
      · rw [if_pos hq]
        have : upC gen (2 * j) = 2 * j := by unfold upC; rw [if_pos (by omega)]
        rw [this]
        exact h.be j (by omega)
      · rw [if_neg hq]
        have : upC gen (2 * j) = 2 * (j + 1) := by unfold upC; rw [if_neg (by omega)]; omega
        rw [this]
        exact h.be (j + 1) (by omega)
  | short e => exact ⟨act, h.m, (fix_shortF h.m hO.cln e).2 h.fx, h.ie, h.be⟩
theorem elim_step {s s' : Sp} (e : s.elim = some (.inl s')) : Step s s' := by
  unfold Sp.elim at e
  split at e
  · cases e
  · rename_i q gen hq
    injection e with e
    split at e
    · cases e
    · rename_i l hl
      injection e with e
      subst e
      obtain ⟨i, h1, h2, h3, h4⟩ := firstE_parts hq
      exact .elim h1 h2 h3 h4 hl
/-- chains of steps -/
inductive Steps : Sp → Sp → Prop where
  | refl (s : Sp) : Steps s s
  | step {s t u : Sp} (h : Step s t) (k : Steps t u) : Steps s u
theorem simp_steps : ∀ (k : Nat) {s s' : Sp}, simpTo k s = .inl s' → Steps s s'
  | 0, s, s', e => by
    injection e with e
    subst e
    exact .refl s
  | k + 1, s, s', e => by
    unfold simpTo at e
    split at e
    · rename_i t ht
      exact .step (elim_step ht) (simp_steps k e)
    · cases e
    · split at e
      · rename_i l hl
        exact .step (.short hl) (simp_steps k e)
      · injection e with e
        subst e
        exact .refl s
theorem Okay.steps {n0 : Nat} {s s' : Sp} (h : Okay n0 s) (k : Steps s s') : Okay n0 s' := by
  induction k with
  | refl => exact h
  | step h1 _ ih => exact ih (h.step h1)
theorem Fit.steps {act0 : α → Nat → α} {n0 : Nat} {s s' : Sp} (k : Steps s s') : ∀ {act : α → Nat → α}, Okay n0 s → Fit act0 D n0 s act → ∃ act', Fit act0 D n0 s' act' := by
  induction k with
  | refl => intro act _ h; exact ⟨act, h⟩
  | step h1 _ ih =>
    intro act hO h
    obtain ⟨act', h'⟩ := h.step hO h1
    exact ih (hO.step h1) h'
theorem okay0 {n : Nat} {rels : List W} (h : Cln n rels) : Okay n (sp0 n rels) := by
  refine ⟨h, by simp [sp0], fun w hw => ?_, by simp [sp0], fun j hj => ?_⟩
  · obtain ⟨i, hi, rfl⟩ := List.mem_map.1 hw
    rw [List.mem_range] at hi
    intro x hx
    rw [List.mem_singleton.1 hx]
    have : (sp0 n rels).n = n := rfl
    omega
  · have hj' : j < n := hj
    exact ⟨j, hj', by simp [sp0, List.getD_eq_getElem?_getD, hj']⟩
theorem fit0 {n : Nat} {rels : List W} {act : α → Nat → α} (h : Mdl n [] D act) (hf : ∀ w ∈ rels, Fix D act w) : Fit act D n (sp0 n rels) act := by
  refine ⟨h, hf, fun i hi p hp => ?_, fun j hj => ?_⟩
  · have : (sp0 n rels).into.getD i [] = [(i : Int) + 1] := by simp [sp0, List.getD_eq_getElem?_getD, hi]
    rw [this]
    show act p (col ((i : Int) + 1)) = _
    rw [col_pos (by omega)]
    congr 1
    omega
  · have hj' : j < n := hj
    exact ⟨j, hj', by simp [sp0, List.getD_eq_getElem?_getD, hj'], fun _ _ => rfl⟩
end
end Go.Proofs.Tz
namespace Go.Proofs
open Go.RowKit Go.Shelf Go.Lib Go.Sort Go.Proofs.Ct Go.Proofs.Tz
/-- a world that has drawn and laid, nothing else -/
def Gr (W W' : World) : Prop := ∃ q os, W' = grow (W.drewN q) os
theorem Gr.refl (W : World) : Gr W W := ⟨0, #[], by simp; rfl⟩
theorem Gr.alloc {W W' : World} (h : Gr W W') (o : Obj) : Gr W (W'.alloc o) := let ⟨q, os, e⟩ := h; ⟨q, os ++ #[o], by rw [e, alloc_eq_grow, grow_grow]⟩
theorem Gr.drew {W W' : World} (h : Gr W W') : Gr W W'.drew := let ⟨q, os, e⟩ := h; ⟨q + 1, os, by rw [e, drew_grow]; rfl⟩
theorem Gr.drewN {W W' : World} (h : Gr W W') (n : Nat) : Gr W (W'.drewN n) := let ⟨q, os, e⟩ := h; ⟨q + n, os, by rw [e, ← World.drewN_drewN]; rfl⟩
theorem isNaN76_any (w : World) (x : Int) : Calls Try.prog 76 #[.int .i64 x] w fun e w' => e = .returned (.bool false) ∧ w' = w := by
  have hd : (x != x) = false := by simp
  go_enter Try.func76, Try.ntmps76
  go_wp2_with fail
  go_ret
  exact ⟨rfl, rfl⟩
theorem isNaN88_any (w : World) (x : Int) : Calls Try.prog 88 #[.int .u64 x] w fun e w' => e = .returned (.bool false) ∧ w' = w := by
  have hd : (x != x) = false := by simp
  go_enter Try.func88, Try.ntmps88
  go_wp2_with fail
  go_ret
  exact ⟨rfl, rfl⟩
theorem compare66_any (w : World) (x y : Int) : Calls Try.prog 66 #[.int .i64 x, .int .i64 y] w fun e w' => e = .returned (.int .i64 (cmpI x y)) ∧ w' = w := by
  have HX := Lib.hid fun W => isNaN76_any W x
  have HY := Lib.hid fun W => isNaN76_any W y
  obtain ⟨R, hR⟩ : ∃ R, R = cmpI x y := ⟨_, rfl⟩
  rw [← hR]
  by_cases h1 : x < y
  · have HE : Hid (R = -1) := Lib.hid (by rw [hR]; unfold cmpI; rw [if_pos h1])
    clear hR
    go_enter Try.func66, Try.ntmps66
    go_wp2_with (first
      | (go_at_call 76; (with_reducible refine (HX.out _).mono ?_); rintro e w' ⟨rfl, rfl⟩)
      | (go_at_call 76; (with_reducible refine (HY.out _).mono ?_); rintro e w' ⟨rfl, rfl⟩))
    go_ret
    exact ⟨ret_int HE.out.symm, rfl⟩
  · by_cases h2 : y < x
    · have HE : Hid (R = 1) := Lib.hid (by rw [hR]; unfold cmpI; rw [if_neg h1, if_pos h2])
      clear hR
      go_enter Try.func66, Try.ntmps66
      go_wp2_with (first
        | (go_at_call 76; (with_reducible refine (HX.out _).mono ?_); rintro e w' ⟨rfl, rfl⟩)
        | (go_at_call 76; (with_reducible refine (HY.out _).mono ?_); rintro e w' ⟨rfl, rfl⟩))
      go_ret
      exact ⟨ret_int HE.out.symm, rfl⟩
    · have HE : Hid (R = 0) := Lib.hid (by rw [hR]; unfold cmpI; rw [if_neg h1, if_neg h2])
      clear hR
      go_enter Try.func66, Try.ntmps66
      go_wp2_with (first
        | (go_at_call 76; (with_reducible refine (HX.out _).mono ?_); rintro e w' ⟨rfl, rfl⟩)
        | (go_at_call 76; (with_reducible refine (HY.out _).mono ?_); rintro e w' ⟨rfl, rfl⟩))
      go_ret
      exact ⟨ret_int HE.out.symm, rfl⟩
theorem compare77_any (w : World) (x y : Int) : Calls Try.prog 77 #[.int .u64 x, .int .u64 y] w fun e w' => e = .returned (.int .i64 (cmpI x y)) ∧ w' = w := by
  have HX := Lib.hid fun W => isNaN88_any W x
  have HY := Lib.hid fun W => isNaN88_any W y
  obtain ⟨R, hR⟩ : ∃ R, R = cmpI x y := ⟨_, rfl⟩
  rw [← hR]
  by_cases h1 : x < y
  · have HE : Hid (R = -1) := Lib.hid (by rw [hR]; unfold cmpI; rw [if_pos h1])
    clear hR
    go_enter Try.func77, Try.ntmps77
    go_wp2_with (first
      | (go_at_call 88; (with_reducible refine (HX.out _).mono ?_); rintro e w' ⟨rfl, rfl⟩)
      | (go_at_call 88; (with_reducible refine (HY.out _).mono ?_); rintro e w' ⟨rfl, rfl⟩))
    go_ret
    exact ⟨ret_int HE.out.symm, rfl⟩
  · by_cases h2 : y < x
    · have HE : Hid (R = 1) := Lib.hid (by rw [hR]; unfold cmpI; rw [if_neg h1, if_pos h2])
      clear hR
      go_enter Try.func77, Try.ntmps77
      go_wp2_with (first
        | (go_at_call 88; (with_reducible refine (HX.out _).mono ?_); rintro e w' ⟨rfl, rfl⟩)
        | (go_at_call 88; (with_reducible refine (HY.out _).mono ?_); rintro e w' ⟨rfl, rfl⟩))
      go_ret
      exact ⟨ret_int HE.out.symm, rfl⟩
    · have HE : Hid (R = 0) := Lib.hid (by rw [hR]; unfold cmpI; rw [if_neg h1, if_neg h2])
      clear hR
      go_enter Try.func77, Try.ntmps77
      go_wp2_with (first
        | (go_at_call 88; (with_reducible refine (HX.out _).mono ?_); rintro e w' ⟨rfl, rfl⟩)
        | (go_at_call 88; (with_reducible refine (HY.out _).mono ?_); rintro e w' ⟨rfl, rfl⟩))
      go_ret
      exact ⟨ret_int HE.out.symm, rfl⟩
theorem or65_any (w : World) (v : Value) (a b : Int) (h : IntsAt w v [a, b]) : Calls Try.prog 65 #[v] w fun e w' => e = .returned (.int .i64 (if a ≠ 0 then a else b)) ∧ ∃ q, w' = w.drewN q := by
  obtain ⟨A, c, rfl, h1, h2, hc⟩ := h.open_
  obtain ⟨g, o, rfl, hcc⟩ := hc (by simp)
  have ha := hcc 0 (by simp)
  have hb := hcc 1 (by simp)
  simp only [List.getD_cons_zero, List.getD_cons_succ, Nat.add_zero] at ha hb
  clear h hc hcc
  simp only [List.length_cons, List.length_nil, Nat.zero_add] at h1 ⊢
  obtain ⟨R, hR⟩ : ∃ R, R = (if a ≠ 0 then a else b) := ⟨_, rfl⟩
  rw [← hR]
  have HR := Lib.hid hR
  clear hR
  go_enter Try.func65, Try.ntmps65
  go_wp2_with fail
  go_loopw [8] (fun z wr => ∃ k : Nat, k ≤ 2 ∧ z = .int .i64 k ∧ (1 ≤ k → a = 0) ∧ (2 ≤ k → b = 0) ∧ ∃ q, wr = w.drewN q) (fun z _ => 2 - (intOf z).toNat)
  case atStart => exact ⟨0, by omega, rfl, fun h => absurd h (by omega), fun h => absurd h (by omega), 0, rfl⟩
  case round =>
    obtain ⟨k, hk, rfl, hz1, hz2, q, rfl⟩ := hrel
    obtain rfl | rfl | rfl : k = 0 ∨ k = 1 ∨ k = 2 := by omega
    · clear hz1 hz2
      by_cases h0 : a = 0
      · have hd : (a != 0) = false := by simpa using h0
        have H0 := Lib.hid h0
        clear h0
        go_wp2_with fail
        go_roundw
        case rel => exact ⟨1, by omega, by go_num, fun _ => H0.out, fun h => absurd h (by omega), _, rfl⟩
        case measure => simp [intOf]
      · have hd : (a != 0) = true := by simpa using h0
        have HE : Hid (R = a) := Lib.hid (by rw [HR.out, if_pos h0])
        clear h0
        go_wp2_with fail
        go_ret
        exact ⟨ret_int HE.out.symm, _, rfl⟩
    · have ha0 := hz1 (by omega)
      subst ha0
      clear hz1 hz2
      have HE : Hid (R = b) := Lib.hid (by rw [HR.out]; simp)
      by_cases h0 : b = 0
      · have hd : (b != 0) = false := by simpa using h0
        have H0 := Lib.hid h0
        clear h0
        go_wp2_with fail
        go_roundw
        case rel => exact ⟨2, by omega, by go_num, fun _ => trivial, fun _ => H0.out, _, rfl⟩
        case measure => simp [intOf]
      · have hd : (b != 0) = true := by simpa using h0
        clear h0
        go_wp2_with fail
        go_ret
        exact ⟨ret_int HE.out.symm, _, rfl⟩
    · have HE : Hid (R = 0) := Lib.hid (by rw [HR.out, if_neg (by simpa using hz1 (by omega))]; exact hz2 (by omega))
      clear hz1 hz2
      go_wp2_with fail
      go_ret
      exact ⟨ret_int HE.out.symm, _, rfl⟩
theorem size58_any (w : World) (x : Int) (hx : Mild x) : Calls Try.prog 58 #[.int .i64 x] w fun e w' => e = .returned (.int .u64 (x.natAbs : Int)) ∧ w' = w := by
  obtain ⟨h1, h2⟩ := hx
  rcases Int.lt_or_le x 0 with h | h
  · have e1 : IntKind.u64.wrap x = x + 18446744073709551616 := by simp [IntKind.wrap, IntKind.bits, IntKind.signed]; omega
    have e2 : IntKind.u64.wrap (-(x + 18446744073709551616)) = -x := by simp [IntKind.wrap, IntKind.bits, IntKind.signed]; omega
    have HE : Hid ((x.natAbs : Int) = -x) := Lib.hid (by omega)
    go_enter Try.func58, Try.ntmps58
    go_wp2_with fail
    go_ret
    rw [HE.out]
    exact ⟨by first | rfl | simp [e1, e2], rfl⟩
  · have e1 : IntKind.u64.wrap x = x := by simp [IntKind.wrap, IntKind.bits, IntKind.signed]; omega
    have HE : Hid ((x.natAbs : Int) = x) := Lib.hid (by omega)
    go_enter Try.func58, Try.ntmps58
    go_wp2_with fail
    go_ret
    rw [HE.out]
    exact ⟨by first | rfl | simp [e1], rfl⟩
end Go.Proofs
namespace Go.Proofs
open Go.RowKit Go.Shelf Go.Lib Go.Sort Go.Proofs.Ct Go.Proofs.Tz
theorem cmpI_bd (x y : Int) : -1 ≤ cmpI x y ∧ cmpI x y ≤ 1 := by unfold cmpI; split <;> (try split) <;> omega
theorem ints_two {X : World} {g : Nat} {a b : Int} {t : TypeId} (h : X.heap[g]? = some (.cells #[.int .i64 a, .int .i64 b] t (0, 0))) (ha : -9223372036854775808 ≤ a ∧ a ≤ 9223372036854775807) (hb : -9223372036854775808 ≤ b ∧ b ≤ 9223372036854775807) : IntsAt X (.slice (some ⟨g, 0, none⟩) 2 2) [a, b] := by
  refine ⟨⟨_, 2, 2, rfl, rfl, Nat.le_refl _, by simp [maxLen], fun _ => ⟨g, 0, rfl, fun j v hv => ?_⟩⟩, fun z hz => ?_⟩
  · rw [cell_of_row _ _ _ _ _ _ h, Nat.zero_add, ← hv]
    have : j = 0 ∨ j = 1 := by
      have := (List.getElem?_eq_some_iff.1 hv).1
      simp [ints] at this; omega
    rcases this with rfl | rfl <;> rfl
  · rcases List.mem_cons.1 hz with rfl | hz
    · exact ha
    · rcases List.mem_cons.1 hz with rfl | hz
      · exact hb
      · cases hz
theorem or65_new (X : World) (a b : Int) (t : TypeId) (ha : -9223372036854775808 ≤ a ∧ a ≤ 9223372036854775807) (hb : -9223372036854775808 ≤ b ∧ b ≤ 9223372036854775807) :
    Calls Try.prog 65 #[.slice (some ⟨X.heap.size, 0, none⟩) 2 2] (X.alloc (.cells #[.int .i64 a, .int .i64 b] t)) fun e w' => e = .returned (.int .i64 (if a ≠ 0 then a else b)) ∧ ∃ q, w' = (X.alloc (.cells #[.int .i64 a, .int .i64 b] t)).drewN q :=
  or65_any _ _ a b (ints_two (heap_alloc_new X _) ha hb)
theorem before68_any (w : World) (x y : Int) (hx : Mild x) (hy : Mild y) : Calls Try.prog 68 #[.int .i64 x, .int .i64 y] w fun e w' => e = .returned (.int .i64 (befI x y)) ∧ Gr w w' := by
  have HS1 := Lib.hid fun W => size58_any W x hx
  have HS2 := Lib.hid fun W => size58_any W y hy
  have HC1 := Lib.hid fun W => compare77_any W x.natAbs y.natAbs
  have HC2 := Lib.hid fun W => compare66_any W y x
  have HR : Hid (befI x y = if cmpI x.natAbs y.natAbs ≠ 0 then cmpI x.natAbs y.natAbs else cmpI y x) := Lib.hid rfl
  have hb1 := cmpI_bd x.natAbs y.natAbs
  have hb2 := cmpI_bd y x
  clear hx hy
  generalize (x.natAbs : Int) = p at *
  generalize (y.natAbs : Int) = q at *
  generalize cmpI p q = a at *
  generalize cmpI y x = b at *
  generalize befI x y = R at *
  have HO : Hid (∀ (X : World) (t : TypeId), Calls Try.prog 65 #[.slice (some ⟨X.heap.size, 0, none⟩) 2 2] (X.alloc (.cells #[.int .i64 a, .int .i64 b] t)) fun e w' => e = .returned (.int .i64 R) ∧ ∃ q, w' = (X.alloc (.cells #[.int .i64 a, .int .i64 b] t)).drewN q) := Lib.hid fun X t => by
    rw [HR.out]
    exact or65_new X a b t (by omega) (by omega)
  clear hb1 hb2
  go_enter Try.func68, Try.ntmps68
  go_wp2_with (first
    | (go_at_call 58; (with_reducible refine (HS1.out _).mono ?_); rintro e w' ⟨rfl, rfl⟩)
    | (go_at_call 58; (with_reducible refine (HS2.out _).mono ?_); rintro e w' ⟨rfl, rfl⟩)
    | (go_at_call 77; (with_reducible refine (HC1.out _).mono ?_); rintro e w' ⟨rfl, rfl⟩)
    | (go_at_call 66; (with_reducible refine (HC2.out _).mono ?_); rintro e w' ⟨rfl, rfl⟩)
    | (go_at_call 65; (with_reducible refine (HO.out _ _).mono ?_); rintro e w' ⟨rfl, k, rfl⟩))
  go_ret
  exact ⟨rfl, ((Gr.refl _).alloc _).drewN _⟩
theorem cmpL_bd (a b : W) : -1 ≤ cmpL a b ∧ cmpL a b ≤ 1 := by
  induction a generalizing b with
  | nil => cases b <;> simp [cmpL]
  | cons x a ih =>
    cases b with
    | nil => simp [cmpL]
    | cons y b =>
      unfold cmpL
      split
      · rw [befI_key]; exact cmpI_bd _ _
      · exact ih b
theorem cmpL_drop {x y : W} {k : Nat} (hx : k < x.length) (hy : k < y.length) : cmpL (x.drop k) (y.drop k) = if befI (x.getD k 0) (y.getD k 0) ≠ 0 then befI (x.getD k 0) (y.getD k 0) else cmpL (x.drop (k + 1)) (y.drop (k + 1)) := by
  rw [List.drop_eq_getElem_cons hx, List.drop_eq_getElem_cons hy]
  simp only [cmpL, List.getD_eq_getElem?_getD, List.getElem?_eq_getElem hx, List.getElem?_eq_getElem hy, Option.getD_some]
theorem cmpL_end1 {x y : W} {k : Nat} (hx : k < x.length) (hy : y.length ≤ k) : cmpL (x.drop k) (y.drop k) = 1 := by
  rw [List.drop_eq_getElem_cons hx, List.drop_of_length_le hy]; rfl
theorem cmpL_end2 {x y : W} {k : Nat} (hx : x.length ≤ k) : cmpL (x.drop k) (y.drop k) = if k < y.length then -1 else 0 := by
  rw [List.drop_of_length_le hx]
  split
  · rename_i h; rw [List.drop_eq_getElem_cons h]; rfl
  · rw [List.drop_of_length_le (by omega)]; rfl
theorem Gr.below {W W' : World} (h : Gr W W') : Below W.heap.size W W' := by
  obtain ⟨q, os, rfl⟩ := h
  have h1 := below_drewN (Below.refl W.heap.size W) q
  refine h1.trans ?_
  exact ⟨rfl, rfl, rfl, by simp [grow], fun k hk => by
    show (W.heap ++ os)[k]? = W.heap[k]?
    rw [Array.getElem?_append_left hk]⟩
theorem Gr.trans {A B C : World} (h : Gr A B) (k : Gr B C) : Gr A C := by
  obtain ⟨q, os, rfl⟩ := h
  obtain ⟨r, os', rfl⟩ := k
  refine ⟨q + r, os ++ os', ?_⟩
  rw [← grow_grow, ← World.drewN_drewN]
  rfl
set_option maxRecDepth 100000 in
theorem compareFunc67_any (w : World) (u v : Value) (x y : List Int) (hu : IntsAt w u x) (hv : IntsAt w v y) (hmx : ∀ z ∈ x, Mild z) (hmy : ∀ z ∈ y, Mild z) : Calls Try.prog 67 #[u, v, .func (.func 68) #[] #[]] w fun e w' => e = .returned (.int .i64 (cmpL x y)) ∧ Gr w w' := by
  obtain ⟨R, hR⟩ : ∃ R, R = cmpL x y := ⟨_, rfl⟩
  rw [← hR]
  have HU := Lib.hid hu
  have HV := Lib.hid hv
  have HX := Lib.hid hmx
  have HY := Lib.hid hmy
  have HR : Hid (R = cmpL (x.drop 0) (y.drop 0)) := Lib.hid (by rw [hR]; rfl)
  obtain ⟨A, c, rfl, h1, h2, -⟩ := hu.open_
  obtain ⟨B, d, rfl, h3, h4, -⟩ := hv.open_
  clear hu hv hmx hmy hR
  have hx0 : (0 : Int) ≤ (x.length : Int) := Int.natCast_nonneg _
  have hy0 : (0 : Int) ≤ (y.length : Int) := Int.natCast_nonneg _
  have hx1 : (x.length : Int) ≤ 9223372036854775807 := by omega
  have hy1 : (y.length : Int) ≤ 9223372036854775807 := by omega
  go_enter Try.func67, Try.ntmps67
  go_wp2_with fail
  go_loopw [13] (fun z wr => ∃ k : Nat, k ≤ x.length ∧ z = .int .i64 k ∧ R = cmpL (x.drop k) (y.drop k) ∧ Gr w wr) (fun z _ => x.length - (intOf z).toNat)
  case atStart => exact ⟨0, by omega, rfl, HR.out, Gr.refl _⟩
  case round =>
    obtain ⟨k, hk, rfl, hE, hG⟩ := hrel
    have HE := Lib.hid hE
    have HG := Lib.hid hG
    have HU' := Lib.hid (HU.out.below hG.below)
    have HV' := Lib.hid (HV.out.below hG.below)
    clear hE hG
    by_cases hkx : k < x.length
    · have hkx' : (k : Int) < (x.length : Int) := by omega
      obtain ⟨A', c', e1, -, -, hc⟩ := HU'.out.open_
      injection e1 with e1 e2 e3
      subst e1 e3
      obtain ⟨b, o, rfl, hcc⟩ := hc (by omega)
      have hcx := hcc k hkx
      clear hc hcc e2
      by_cases hky : k < y.length
      · have hky' : ¬ (y.length : Int) ≤ (k : Int) := by omega
        obtain ⟨B', d', e1, -, -, hd⟩ := HV'.out.open_
        injection e1 with e1 e2 e3
        subst e1 e3
        obtain ⟨b2, o2, rfl, hdd⟩ := hd (by omega)
        have hcy := hdd k hky
        have HD := Lib.hid (cmpL_drop hkx hky)
        clear hd hdd e2
        have HB : Hid (∀ W, Calls Try.prog 68 #[.int .i64 (x.getD k 0), .int .i64 (y.getD k 0)] W fun e w' => e = .returned (.int .i64 (befI (x.getD k 0) (y.getD k 0))) ∧ Gr W w') := Lib.hid fun W => before68_any W _ _ (Mild.at_ HX.out k) (Mild.at_ HY.out k)
        generalize x.getD k 0 = p at *
        generalize y.getD k 0 = q at *
        generalize befI p q = z at *
        clear hkx hky
        go_wp2_with (first
          | (go_at_call 68; (with_reducible refine (HB.out _).mono ?_); rintro e w' ⟨rfl, hg⟩))
        · go_ret
          exact ⟨ret_int (by rw [HE.out, HD.out, if_pos (by simp_all)]), HG.out.trans hg⟩
        · go_roundw
          case rel => exact ⟨k + 1, by omega, by go_num, by rw [HE.out, HD.out, if_neg (by simp_all)], HG.out.trans hg⟩
          case measure => simp [intOf]; omega
      · have hky' : (y.length : Int) ≤ (k : Int) := by omega
        have HF := Lib.hid (cmpL_end1 hkx (show y.length ≤ k by omega))
        clear hkx hky
        go_wp2_with fail
        go_ret
        exact ⟨ret_int (by rw [HE.out, HF.out]), HG.out⟩
    · have hkx' : ¬ (k : Int) < (x.length : Int) := by omega
      have HF := Lib.hid (cmpL_end2 (y := y) (show x.length ≤ k by omega))
      have hke : k = x.length := by omega
      subst hke
      clear hkx
      by_cases hl : x.length < y.length
      · have hl' : (x.length : Int) < (y.length : Int) := by omega
        go_wp2_with fail
        go_ret
        exact ⟨ret_int (by rw [HE.out, HF.out, if_pos hl]), HG.out⟩
      · have hl' : ¬ (x.length : Int) < (y.length : Int) := by omega
        go_wp2_with fail
        go_ret
        exact ⟨ret_int (by rw [HE.out, HF.out, if_neg hl]), HG.out⟩
set_option maxRecDepth 100000 in
theorem cmp46_any (w : World) (u v : Value) (x y : List Int) (hu : IntsAt w u x) (hv : IntsAt w v y) (hmx : ∀ z ∈ x, Mild z) (hmy : ∀ z ∈ y, Mild z) : Calls Try.prog 46 #[u, v] w fun e w' => e = .returned (.int .i64 (cmpW x y)) ∧ Gr w w' := by
  have HU := Lib.hid hu
  have HV := Lib.hid hv
  obtain ⟨A, c, rfl, h1, h2, -⟩ := hu.open_
  obtain ⟨B, d, rfl, h3, h4, -⟩ := hv.open_
  have HC1 := Lib.hid fun W => compare66_any W (x.length : Int) (y.length : Int)
  have HC2 : Hid (∀ W, Gr w W → Calls Try.prog 67 #[.slice A x.length c, .slice B y.length d, .func (.func 68) #[] #[]] W fun e w' => e = .returned (.int .i64 (cmpL x y)) ∧ Gr W w') := Lib.hid fun W h => compareFunc67_any W _ _ x y (HU.out.below h.below) (HV.out.below h.below) hmx hmy
  have HR : Hid (cmpW x y = if cmpI (x.length : Int) (y.length : Int) ≠ 0 then cmpI (x.length : Int) (y.length : Int) else cmpL x y) := Lib.hid rfl
  have hb1 := cmpI_bd (x.length : Int) (y.length : Int)
  have hb2 := cmpL_bd x y
  clear hu hv hmx hmy
  have hx0 : (0 : Int) ≤ (x.length : Int) := Int.natCast_nonneg _
  have hy0 : (0 : Int) ≤ (y.length : Int) := Int.natCast_nonneg _
  have hx1 : (x.length : Int) ≤ 9223372036854775807 := by omega
  have hy1 : (y.length : Int) ≤ 9223372036854775807 := by omega
  generalize cmpI (x.length : Int) (y.length : Int) = a at *
  generalize cmpL x y = b at *
  generalize cmpW x y = R at *
  have HO : Hid (∀ (X : World) (t : TypeId), Calls Try.prog 65 #[.slice (some ⟨X.heap.size, 0, none⟩) 2 2] (X.alloc (.cells #[.int .i64 a, .int .i64 b] t)) fun e w' => e = .returned (.int .i64 R) ∧ ∃ q, w' = (X.alloc (.cells #[.int .i64 a, .int .i64 b] t)).drewN q) := Lib.hid fun X t => by
    rw [HR.out]
    exact or65_new X a b t (by omega) (by omega)
  clear hb1 hb2
  go_enter Try.func46, Try.ntmps46
  go_wp2_with (first
    | (go_at_call 66; (with_reducible refine (HC1.out _).mono ?_); rintro e w' ⟨rfl, rfl⟩)
    | (go_at_call 67; (with_reducible refine (HC2.out _ (Gr.refl _)).mono ?_); rintro e w' ⟨rfl, hg⟩)
    | (go_at_call 65; (with_reducible refine (HO.out _ _).mono ?_); rintro e w' ⟨rfl, k, rfl⟩))
  go_ret
  exact ⟨rfl, (hg.alloc _).drewN _⟩
end Go.Proofs
