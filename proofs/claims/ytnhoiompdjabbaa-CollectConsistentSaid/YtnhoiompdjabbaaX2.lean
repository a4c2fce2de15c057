import Derived.Test.YtnhoiompdjabbaaX1
import Derived.Laws.CopyOwn
namespace Go.Proofs
open Go.RowKit Go.Proofs.Pc

set_option maxRecDepth 100000 in
set_option maxHeartbeats 400000 in
theorem mul_any {P : PcD} (hv : Valid P) (w : World) (br : Nat) (sv : Value) (x : List Int) (ys : List (List Int)) (hr : RulesAt w br P) (hs : VecsAt w sv (x :: ys)) (hx : NV P x) (hy : ∀ i, i < ys.length → NV P (ys.getD i [])) (hpos : 0 < ys.length) :
    Calls Try.prog 71 #[.pointer (some ⟨br, 0, none⟩), sv] w fun e w' => e = .returned (.agg (vec (foldP P x ys ys.length)).toArray) ∧ Below w.heap.size w w' := by
  obtain ⟨b, cap, rfl, hc1, hc2, hvs⟩ := hs
  have hbl := hr.lt
  have hx0 : w.rangeAt b 0 (vec x) := hvs 0 (by simp)
  have hc1' : ys.length + 1 ≤ cap := hc1
  have HVS := Lib.hid hvs
  have HR := Lib.hid hr
  have HX0 := Lib.hid hx0
  have HX := Lib.hid hx
  have HY := Lib.hid hy
  have hbld := build113
  have hst := @store_vec_new
  have hcap : cap ≠ 1 := by omega
  clear hr hvs hx0 hc1 hx hy
  go_enter Try.func71, Try.ntmps71
  go_wp2_with (first | (refine wpList_build113 rfl (.tmp 8) (.tmp 11) rfl br x rfl rfl ?_) | (refine wpList_load_mid rfl 82 (.tmp 10) rfl b 0 rfl (vec x) _ (World.rangeAt_alloc HX0.out _) Try.underlying82 rfl (by rw [length_vec]; exact info82) ?_))
  have hW1 : CollAt ((w.alloc (.cells #[.int .i64 0, .int .i64 0, .int .i64 0, .int .i64 0, .int .i64 0, .int .i64 0, .int .i64 0, .int .i64 0, .int .i64 0, .int .i64 0, .int .i64 0, .int .i64 0] 82)).alloc (.cells (Value.pointer (some ⟨br, 0, none⟩) :: vec x).toArray 113)) (w.heap.size + 1) br x := by
    have := heap_alloc_new (w.alloc (.cells #[.int .i64 0, .int .i64 0, .int .i64 0, .int .i64 0, .int .i64 0, .int .i64 0, .int .i64 0, .int .i64 0, .int .i64 0, .int .i64 0, .int .i64 0, .int .i64 0] 82)) (.cells (Value.pointer (some ⟨br, 0, none⟩) :: vec x).toArray 113)
    simpa [CollAt] using this
  have hB1 : Below w.heap.size w ((w.alloc (.cells #[.int .i64 0, .int .i64 0, .int .i64 0, .int .i64 0, .int .i64 0, .int .i64 0, .int .i64 0, .int .i64 0, .int .i64 0, .int .i64 0, .int .i64 0, .int .i64 0] 82)).alloc (.cells (Value.pointer (some ⟨br, 0, none⟩) :: vec x).toArray 113)) := ((Below.refl _ w).alloc (Nat.le_refl _) _).alloc (by simp) _
  have hR1 : ((w.alloc (.cells #[.int .i64 0, .int .i64 0, .int .i64 0, .int .i64 0, .int .i64 0, .int .i64 0, .int .i64 0, .int .i64 0, .int .i64 0, .int .i64 0, .int .i64 0, .int .i64 0] 82)).alloc (.cells (Value.pointer (some ⟨br, 0, none⟩) :: vec x).toArray 113)).heap[w.heap.size]? = some (.cells #[.int .i64 0, .int .i64 0, .int .i64 0, .int .i64 0, .int .i64 0, .int .i64 0, .int .i64 0, .int .i64 0, .int .i64 0, .int .i64 0, .int .i64 0, .int .i64 0] 82 (0, 0)) :=
    (Below.heap_alloc _ _ _ (by simp)).trans (heap_alloc_new w _)
  have hS1 : ((w.alloc (.cells #[.int .i64 0, .int .i64 0, .int .i64 0, .int .i64 0, .int .i64 0, .int .i64 0, .int .i64 0, .int .i64 0, .int .i64 0, .int .i64 0, .int .i64 0, .int .i64 0] 82)).alloc (.cells (Value.pointer (some ⟨br, 0, none⟩) :: vec x).toArray 113)).heap.size = w.heap.size + 2 := by simp
  generalize (w.alloc (.cells #[.int .i64 0, .int .i64 0, .int .i64 0, .int .i64 0, .int .i64 0, .int .i64 0, .int .i64 0, .int .i64 0, .int .i64 0, .int .i64 0, .int .i64 0, .int .i64 0] 82)).alloc (.cells (Value.pointer (some ⟨br, 0, none⟩) :: vec x).toArray 113) = w1 at *
  have HW1 := Lib.hid hW1
  have HB1 := Lib.hid hB1
  have HR1 := Lib.hid hR1
  have HS1 := Lib.hid hS1
  clear hW1 hB1 hR1 hS1
  go_loopw [7, 17] (fun _ i wr => ∃ k : Nat, k ≤ ys.length ∧ i = .int .i64 k ∧ CollAt wr (w.heap.size + 1) br (foldP P x ys k) ∧ w1.grownBy wr (some (w.heap.size + 1))) (fun _ i _ => ys.length - (intOf i).toNat)
  case atStart => exact ⟨0, Nat.zero_le _, rfl, HW1.out, World.grownBy.refl _ _⟩
  case round =>
    obtain ⟨k, hk, rfl, hC, hG⟩ := hrel
    have hbw : Below w.heap.size w wr := HB1.out.grown hG HB1.out.size (fun k e => by cases e; omega)
    have HC := Lib.hid hC
    have HG := Lib.hid hG
    have HBw := Lib.hid hbw
    have hnk : NV P (foldP P x ys k) := foldTo_inv k (fun i z hi hz => mulP_NV hv hz) x HX.out
    have HNK := Lib.hid hnk
    have hwsz : w.heap.size + 1 < wr.heap.size := by have := hG.size; rw [HS1.out] at this; omega
    clear hC hG hbw hnk
    by_cases hlt : k < ys.length
    · have hyr : wr.rangeAt b (12 + k * 12) (vec (ys.getD k [])) := by
        have h1 := HVS.out (k + 1) (by simp; omega)
        rw [show 12 + k * 12 = (k + 1) * 12 by omega]
        have hb : b < w.heap.size := World.block_lt_of_cell? w _ (h1 0 _ (getElem?_vec _ (by omega)))
        exact rangeAt_keep h1 (HBw.out.block b hb)
      have HYR := Lib.hid hyr
      have hyn := HY.out k hlt
      have HYN := Lib.hid hyn
      clear hyr hyn
      have hcr : CollAt (wr.alloc (.cells (vec (ys.getD k [])).toArray 82)) (w.heap.size + 1) br (foldP P x ys k) := HC.out.below ((Below.refl _ _).alloc (Nat.le_refl _) _)
      have hrr : RulesAt (wr.alloc (.cells (vec (ys.getD k [])).toArray 82)) br P := HR.out.below (HBw.out.alloc HBw.out.size _)
      have HCR := Lib.hid hcr
      have HRR := Lib.hid hrr
      clear hcr hrr
      have hfs : foldP P x ys (k + 1) = mulP P (foldP P x ys k) (ys.getD k []) := rfl
      have HFS := Lib.hid hfs
      clear hfs
      generalize foldP P x ys k = xk at *
      generalize ys.getD k [] = yk at *
      go_wp2_with (first
        | (refine wpList_load_mid rfl 82 (.tmp 19) rfl b _ rfl (vec yk) _ HYR.out Try.underlying82 rfl (by rw [length_vec]; exact info82) ?_)
        | (refine wpList_load_mid rfl 82 (.tmp 7) rfl wr.heap.size 0 rfl (vec yk) _ (range_new _ _) Try.underlying82 rfl (by rw [length_vec]; exact info82) ?_)
        | (go_at_call 80; refine (by_ok hv P.n _ (w.heap.size + 1) br xk yk HCR.out HRR.out (by omega) HNK.out (NV.small hv HYN.out)).mono ?_; rintro e w5 ⟨rfl, hc5, hg5⟩))
      go_roundw
      case rel => exact ⟨k + 1, by omega, by go_num, by (rw [HFS.out]; exact hc5), only_trans (only_trans HG.out (World.grownBy_alloc _ _ _)) hg5⟩
      case measure => simp [intOf]; omega
    · have hkn : k = ys.length := by omega
      subst hkn
      have hres : wr.heap[w.heap.size]? = some (.cells #[.int .i64 0, .int .i64 0, .int .i64 0, .int .i64 0, .int .i64 0, .int .i64 0, .int .i64 0, .int .i64 0, .int .i64 0, .int .i64 0, .int .i64 0, .int .i64 0] 82 (0, 0)) := (HG.out.block w.heap.size (by rw [HS1.out]; omega) (by simp)).trans HR1.out
      have HRes := Lib.hid hres
      clear hres
      go_wp2_with (first
        | (refine wpList_load_mid rfl 82 (.tmp 27) rfl (w.heap.size + 1) 1 rfl (vec (foldP P x ys ys.length)) _ HC.out.range Try.underlying82 rfl (by rw [length_vec]; exact info82) ?_)
        | (refine wpList_store_row rfl 82 (.tmp 4) (.tmp 28) rfl w.heap.size 82 _ (vec (foldP P x ys ys.length)).toArray rfl rfl HRes.out (by rw [size_vec]; exact info82) (by rw [size_vec]; rfl) (oneCell_vec _) ?_))
      refine bodyPost_ret (results_cell_row (P := Try.prog) rfl _ _ w.heap.size 82 (vec (foldP P x ys ys.length)).toArray (0, 0) _ rfl (setRow_heap _ _ _ _ _ _ HRes.out) Try.underlying82 rfl (by rw [size_vec]; exact info82)) rfl ⟨rfl, below_setRow HBw.out (Nat.le_refl _) _⟩
end Go.Proofs
