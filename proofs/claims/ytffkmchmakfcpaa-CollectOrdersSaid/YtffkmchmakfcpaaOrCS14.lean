/- Vectors by value: stores, loads, builds; the contracts of unit, mul, list; X1; X2; A region that draws its order, by an invariant on its slots: each operation is shown once, whatever order the region is run in. Fenced walk; One operation at a time: what it runs to. For the slot obligations of a region that draws its order (Fence.wide); What the iterator's walk leans on. -/
import Derived.Test.YtffkmchmakfcpaaOrCS13
import Derived.Laws.CopyOwn
import Derived.OrdersIn
import Derived.TacticsIn
import Derived.Deep.RegionHeld
import Derived.RangeFuncFrom
import Derived.RangeFuncCalls
import Derived.Shelf.Abstract
import Derived.OwnWalkIn
import Derived.TacticsInMore
import Derived.LoopNIn
import Derived.LoopIn
namespace Go.Proofs
open Go.RowKit Go.Proofs.Pc
theorem times_ok {P : PcD} (hv : Valid P) : ∀ d, TimesOk P d
  | 0 => fun w bc br x i _ _ _ _ hi hd => absurd hd (by omega)
  | d + 1 => times_of_by hv (by_of_times hv (times_ok hv d))
theorem by_ok {P : PcD} (hv : Valid P) (d : Nat) : ByOk P d := by_of_times hv (times_ok hv d)
theorem Pc.NV.small {P : PcD} (hv : Valid P) {y : List Int} (hy : NV P y) : ∀ k, k < P.n → 0 ≤ y.getD k 0 ∧ y.getD k 0 ≤ 1000 ∧ (0 < y.getD k 0 → P.n ≤ k + P.n) := fun k hk => by
  have h1 := hy.2 k hk
  have h2 := hv.ord2 k hk
  exact ⟨h1.1, by omega, fun _ => by omega⟩
theorem build113 (br : Nat) (x : List Int) (w : World) : (Instr.build 117 #[(0, .pointer (some ⟨br, 0, none⟩)), (1, .agg (vec x).toArray)]).run Try.prog w = .ok (.agg (Value.pointer (some ⟨br, 0, none⟩) :: vec x).toArray) w := by kernel_rfl
theorem bslice2 (x y : List Int) (w : World) : (Instr.buildSlice 143 2 #[(0, .agg (vec x).toArray), (1, .agg (vec y).toArray)]).run Try.prog w = .ok (.slice (some ⟨w.heap.size, 0, none⟩) 2 2) (w.alloc (.cells (vec x ++ vec y).toArray 87)) := by kernel_rfl
theorem bslice3 (x y z : List Int) (w : World) : (Instr.buildSlice 143 3 #[(0, .agg (vec x).toArray), (1, .agg (vec y).toArray), (2, .agg (vec z).toArray)]).run Try.prog w = .ok (.slice (some ⟨w.heap.size, 0, none⟩) 3 3) (w.alloc (.cells (vec x ++ vec y ++ vec z).toArray 87)) := by kernel_rfl
theorem wpList_store_row {P : Program} {ops : Array Oper} {rest : List Oper} {op : Oper} {a : Act} {w : World} {Q : Exit → Act → World → Prop} (hgd : op.guard = none) (ty : TypeId) (x y : Operand) (ho : op.op = .store ty x y)
    (g : Nat) (t : TypeId) (old c' : Array Value) (hx : a.eval x = .pointer (some ⟨g, 0, none⟩)) (hy : a.eval y = .agg c') (hg : w.heap[g]? = some (.cells old t (0, 0)))
    (hi : (P.info? ty).map (·.size) = some c'.size) (hoo : old.size = c'.size) (h1 : c'.all (·.oneCell') = true)
    (h : wpList P ops Q rest (a.put op.dst undef) (w.setRow g c')) : wpList P ops Q (op :: rest) a w :=
  wpList_plain hgd fun _ hK => by
    unfold Oper.wp execOp
    simp only [ho, hx, hy, Instr.storeAt, Instr.sureAddr, Sem.run_bind, Sem.run_pure, Result.andThen_ok, run_storeVar_row w g t ty old c' hg hi hoo h1]
    exact hK _ _ h
/-- the slice value sv holds the vectors xs -/
def VecsAt (w : World) (sv : Value) (xs : List (List Int)) : Prop := ∃ b cap, sv = .slice (some ⟨b, 0, none⟩) xs.length cap ∧ xs.length ≤ cap ∧ cap ≤ 9223372036854775807 ∧ ∀ i, i < xs.length → w.rangeAt b (i * 12) (vec (xs.getD i []))
theorem vecs2 (w : World) (x y : List Int) : VecsAt (w.alloc (.cells (vec x ++ vec y).toArray 87)) (.slice (some ⟨w.heap.size, 0, none⟩) 2 2) [x, y] := by
  refine ⟨w.heap.size, 2, rfl, by simp, by omega, fun i hi j v hv => ?_⟩
  have hj : j < 12 := by have := (List.getElem?_eq_some_iff.1 hv).1; rwa [length_vec] at this
  rw [cell_of_row _ _ _ _ _ _ (heap_alloc_new w _)]
  simp at hi
  have hi' : i = 0 ∨ i = 1 := by omega
  rcases hi' with rfl | rfl
  · simp [List.getElem?_append, length_vec, hj]
    first | (have h := (List.getElem?_eq_some_iff.1 hv).2; simpa using h) | (simpa using hv)
  · have : ¬ (12 + j < 12) := by omega
    simp [List.getElem?_append, length_vec, this]
    first | (have h := (List.getElem?_eq_some_iff.1 hv).2; simpa using h) | (simpa using hv)
theorem vecs3 (w : World) (x y z : List Int) : VecsAt (w.alloc (.cells (vec x ++ vec y ++ vec z).toArray 87)) (.slice (some ⟨w.heap.size, 0, none⟩) 3 3) [x, y, z] := by
  refine ⟨w.heap.size, 3, rfl, by simp, by omega, fun i hi j v hv => ?_⟩
  have hj : j < 12 := by have := (List.getElem?_eq_some_iff.1 hv).1; rwa [length_vec] at this
  rw [cell_of_row _ _ _ _ _ _ (heap_alloc_new w _)]
  simp at hi
  have hi' : i = 0 ∨ i = 1 ∨ i = 2 := by omega
  rcases hi' with rfl | rfl | rfl
  · have : j < 12 + 12 := by omega
    simp [List.getElem?_append, length_vec, hj]
    first | (have h := (List.getElem?_eq_some_iff.1 hv).2; simpa using h) | (simpa using hv)
  · have h1 : ¬ (12 + j < 12) := by omega
    have h2 : 12 + j < 12 + 12 := by omega
    simp [List.getElem?_append, length_vec, h1, hj]
    first | (have h := (List.getElem?_eq_some_iff.1 hv).2; simpa using h) | (simpa using hv)
  · have h1 : ¬ (24 + j < 12 + 12) := by omega
    have h2 : ¬ (24 + j < 12) := by omega
    have h3 : 24 + j - 12 - 12 = j := by omega
    have h4 : ¬ (24 + j - 12 < 12) := by omega
    simp [List.getElem?_append, length_vec, h2, h3, h4]
    first | (have h := (List.getElem?_eq_some_iff.1 hv).2; simpa using h) | (simpa using hv)
def foldP (P : PcD) (x : List Int) (ys : List (List Int)) (k : Nat) : List Int := foldTo (fun i a => mulP P a (ys.getD i [])) k x
end Go.Proofs
namespace Go.Proofs
open Go.RowKit Go.Proofs.Pc
def unitP (i : Nat) (x : Int) : List Int := ((List.range 12).map fun k => if k = i then x else 0)
theorem getD_unitP (i k : Nat) (x : Int) (hi : i < 12) : (unitP i x).getD k 0 = if k = i then x else 0 := by
  unfold unitP
  rcases Nat.lt_or_ge k 12 with hk | hk
  · simp [List.getD_eq_getElem?_getD, List.getElem?_range hk]
  · rw [List.getD_eq_getElem?_getD, List.getElem?_eq_none (by simpa using hk), if_neg (by omega)]
    rfl
theorem store_vec_same (w : World) (x y : List Int) : Sem.run Try.prog (storeCells ⟨w.heap.size, 0, none⟩ (vec x)) (w.alloc (.cells (vec y).toArray 87)) = .ok () (w.alloc (.cells (vec x).toArray 87)) :=
  run_storeCells_new (P := Try.prog) w 87 _ (vec x).toArray (by rw [size_vec]; exact info82) (by rw [size_vec, size_vec]) (oneCell_vec x)
theorem range_new (w : World) (x : List Int) : (w.alloc (.cells (vec x).toArray 87)).rangeAt w.heap.size 0 (vec x) := fun j v hv => by
  rw [cell_of_row _ _ _ _ _ _ (heap_alloc_new w _)]
  simpa using hv
set_option maxRecDepth 100000 in
theorem unit_any (w : World) (i : Nat) (x : Int) (hi : i < 12) :
    Calls Try.prog 83 #[.int .i64 i, .int .i64 x] w fun e w' => e = .returned (.agg (vec (unitP i x)).toArray) ∧ Below w.heap.size w w' := by
  have hi0 : (0 : Int) ≤ (i : Int) := Int.natCast_nonneg _
  have hi1 : (i : Int) < 12 := by omega
  have hz : [Value.int .i64 0, Value.int .i64 0, Value.int .i64 0, Value.int .i64 0, Value.int .i64 0, Value.int .i64 0, Value.int .i64 0, Value.int .i64 0, Value.int .i64 0, Value.int .i64 0, Value.int .i64 0, Value.int .i64 0].set i (.int .i64 x) = vec (unitP i x) := by
    apply List.ext_getElem?
    intro k
    rw [List.getElem?_set]
    rcases Nat.lt_or_ge k 12 with hk | hk
    · rw [getElem?_vec _ hk, getD_unitP _ _ _ hi]
      by_cases e : i = k
      · subst e; simp [hi]
      · rw [if_neg e, if_neg (Ne.symm e)]
        exact getElem?_vec [] hk
    · have : i ≠ k := by omega
      rw [if_neg this, List.getElem?_eq_none (by simpa using hk), List.getElem?_eq_none (by rw [length_vec]; exact hk)]
  have hst := store_vec_same
  go_enter Try.func83, Try.ntmps83
  go_wp2_with (first | (refine wpList_load_mid rfl 87 (.tmp 4) rfl w.heap.size 0 rfl (vec (unitP i x)) _ (range_new _ _) Try.underlying87 rfl (by rw [length_vec]; exact info82) ?_))
  refine bodyPost_ret (results_cell_row (P := Try.prog) rfl _ _ w.heap.size 87 (vec (unitP i x)).toArray (0, 0) _ rfl (heap_alloc_new w _) Try.underlying87 rfl (by rw [size_vec]; exact info82)) rfl ⟨rfl, (Below.refl _ _).alloc (Nat.le_refl _) _⟩
section
variable {ops : Array Oper} {rest : List Oper} {op : Oper} {a : Act} {w : World} {Q : Exit → Act → World → Prop}
theorem wpList_build113 (hgd : op.guard = none) (x y : Operand) (ho : op.op = .build 117 #[(0, x), (1, y)]) (br : Nat) (xs : List Int) (hx : a.eval x = .pointer (some ⟨br, 0, none⟩)) (hy : a.eval y = .agg (vec xs).toArray)
    (h : wpList Try.prog ops Q rest (a.put op.dst (.agg (Value.pointer (some ⟨br, 0, none⟩) :: vec xs).toArray)) w) : wpList Try.prog ops Q (op :: rest) a w :=
  wpList_plain hgd fun _ hK => by
    have hb := build113 br xs w
    unfold Oper.wp execOp
    simp only [ho, List.map_toArray, List.map_cons, List.map_nil, hx, hy, Sem.run_bind, hb, Result.andThen_ok, Sem.run_pure]
    exact hK _ _ h
theorem wpList_bslice2 (hgd : op.guard = none) (x y : Operand) (ho : op.op = .buildSlice 143 2 #[(0, x), (1, y)]) (xs ys : List Int) (hx : a.eval x = .agg (vec xs).toArray) (hy : a.eval y = .agg (vec ys).toArray)
    (h : wpList Try.prog ops Q rest (a.put op.dst (.slice (some ⟨w.heap.size, 0, none⟩) 2 2)) (w.alloc (.cells (vec xs ++ vec ys).toArray 87))) : wpList Try.prog ops Q (op :: rest) a w :=
  wpList_plain hgd fun _ hK => by
    have hb := bslice2 xs ys w
    unfold Oper.wp execOp
    simp only [ho, List.map_toArray, List.map_cons, List.map_nil, hx, hy, Sem.run_bind, hb, Result.andThen_ok, Sem.run_pure]
    exact hK _ _ h
end
end Go.Proofs
namespace Go.Proofs
open Go.RowKit Go.Proofs.Pc
set_option maxRecDepth 100000 in
set_option maxHeartbeats 400000 in
theorem mul_any {P : PcD} (hv : Valid P) (w : World) (br : Nat) (sv : Value) (x : List Int) (ys : List (List Int)) (hr : RulesAt w br P) (hs : VecsAt w sv (x :: ys)) (hx : NV P x) (hy : ∀ i, i < ys.length → NV P (ys.getD i [])) (hpos : 0 < ys.length) :
    Calls Try.prog 73 #[.pointer (some ⟨br, 0, none⟩), sv] w fun e w' => e = .returned (.agg (vec (foldP P x ys ys.length)).toArray) ∧ Below w.heap.size w w' := by
  obtain ⟨b, cap, rfl, hc1, hc2, hvs⟩ := hs
  have hbl := hr.lt
  have hx0 : w.rangeAt b 0 (vec x) := hvs 0 (by simp)
  have hc1' : ys.length + 1 ≤ cap := hc1
  have HVS := Lib.hid hvs
  have HR := Lib.hid hr
  have HX0 := Lib.hid hx0
  have HX := Lib.hid hx
  have HY := Lib.hid hy
  have hbld := build113
  have hst := @store_vec_new
  have hcap : cap ≠ 1 := by omega
  clear hr hvs hx0 hc1 hx hy
  go_enter Try.func73, Try.ntmps73
  go_wp2_with (first | (refine wpList_build113 rfl (.tmp 8) (.tmp 11) rfl br x rfl rfl ?_) | (refine wpList_load_mid rfl 87 (.tmp 10) rfl b 0 rfl (vec x) _ (World.rangeAt_alloc HX0.out _) Try.underlying87 rfl (by rw [length_vec]; exact info82) ?_))
  have hW1 : CollAt ((w.alloc (.cells #[.int .i64 0, .int .i64 0, .int .i64 0, .int .i64 0, .int .i64 0, .int .i64 0, .int .i64 0, .int .i64 0, .int .i64 0, .int .i64 0, .int .i64 0, .int .i64 0] 87)).alloc (.cells (Value.pointer (some ⟨br, 0, none⟩) :: vec x).toArray 117)) (w.heap.size + 1) br x := by
    have := heap_alloc_new (w.alloc (.cells #[.int .i64 0, .int .i64 0, .int .i64 0, .int .i64 0, .int .i64 0, .int .i64 0, .int .i64 0, .int .i64 0, .int .i64 0, .int .i64 0, .int .i64 0, .int .i64 0] 87)) (.cells (Value.pointer (some ⟨br, 0, none⟩) :: vec x).toArray 117)
    simpa [CollAt] using this
  have hB1 : Below w.heap.size w ((w.alloc (.cells #[.int .i64 0, .int .i64 0, .int .i64 0, .int .i64 0, .int .i64 0, .int .i64 0, .int .i64 0, .int .i64 0, .int .i64 0, .int .i64 0, .int .i64 0, .int .i64 0] 87)).alloc (.cells (Value.pointer (some ⟨br, 0, none⟩) :: vec x).toArray 117)) := ((Below.refl _ w).alloc (Nat.le_refl _) _).alloc (by simp) _
  have hR1 : ((w.alloc (.cells #[.int .i64 0, .int .i64 0, .int .i64 0, .int .i64 0, .int .i64 0, .int .i64 0, .int .i64 0, .int .i64 0, .int .i64 0, .int .i64 0, .int .i64 0, .int .i64 0] 87)).alloc (.cells (Value.pointer (some ⟨br, 0, none⟩) :: vec x).toArray 117)).heap[w.heap.size]? = some (.cells #[.int .i64 0, .int .i64 0, .int .i64 0, .int .i64 0, .int .i64 0, .int .i64 0, .int .i64 0, .int .i64 0, .int .i64 0, .int .i64 0, .int .i64 0, .int .i64 0] 87 (0, 0)) :=
    (Below.heap_alloc _ _ _ (by simp)).trans (heap_alloc_new w _)
  have hS1 : ((w.alloc (.cells #[.int .i64 0, .int .i64 0, .int .i64 0, .int .i64 0, .int .i64 0, .int .i64 0, .int .i64 0, .int .i64 0, .int .i64 0, .int .i64 0, .int .i64 0, .int .i64 0] 87)).alloc (.cells (Value.pointer (some ⟨br, 0, none⟩) :: vec x).toArray 117)).heap.size = w.heap.size + 2 := by simp
  generalize (w.alloc (.cells #[.int .i64 0, .int .i64 0, .int .i64 0, .int .i64 0, .int .i64 0, .int .i64 0, .int .i64 0, .int .i64 0, .int .i64 0, .int .i64 0, .int .i64 0, .int .i64 0] 87)).alloc (.cells (Value.pointer (some ⟨br, 0, none⟩) :: vec x).toArray 117) = w1 at *
  have HW1 := Lib.hid hW1
  have HB1 := Lib.hid hB1
  have HR1 := Lib.hid hR1
  have HS1 := Lib.hid hS1
  clear hW1 hB1 hR1 hS1
  go_loopw [7, 17] (fun _ i wr => ∃ k : Nat, k ≤ ys.length ∧ i = .int .i64 k ∧ CollAt wr (w.heap.size + 1) br (foldP P x ys k) ∧ w1.grownBy wr (some (w.heap.size + 1))) (fun _ i _ => ys.length - (intOf i).toNat)
  case atStart => exact ⟨0, Nat.zero_le _, rfl, HW1.out, World.grownBy.refl _ _⟩
  case round =>
    obtain ⟨k, hk, rfl, hC, hG⟩ := hrel
    have hbw : Below w.heap.size w wr := HB1.out.grown hG HB1.out.size (fun k e => by cases e; omega)
    have HC := Lib.hid hC
    have HG := Lib.hid hG
    have HBw := Lib.hid hbw
    have hnk : NV P (foldP P x ys k) := foldTo_inv k (fun i z hi hz => mulP_NV hv hz) x HX.out
    have HNK := Lib.hid hnk
    have hwsz : w.heap.size + 1 < wr.heap.size := by have := hG.size; rw [HS1.out] at this; omega
    clear hC hG hbw hnk
    by_cases hlt : k < ys.length
    · have hyr : wr.rangeAt b (12 + k * 12) (vec (ys.getD k [])) := by
        have h1 := HVS.out (k + 1) (by simp; omega)
        rw [show 12 + k * 12 = (k + 1) * 12 by omega]
        have hb : b < w.heap.size := World.block_lt_of_cell? w _ (h1 0 _ (getElem?_vec _ (by omega)))
        exact rangeAt_keep h1 (HBw.out.block b hb)
      have HYR := Lib.hid hyr
      have hyn := HY.out k hlt
      have HYN := Lib.hid hyn
      clear hyr hyn
      have hcr : CollAt (wr.alloc (.cells (vec (ys.getD k [])).toArray 87)) (w.heap.size + 1) br (foldP P x ys k) := HC.out.below ((Below.refl _ _).alloc (Nat.le_refl _) _)
      have hrr : RulesAt (wr.alloc (.cells (vec (ys.getD k [])).toArray 87)) br P := HR.out.below (HBw.out.alloc HBw.out.size _)
      have HCR := Lib.hid hcr
      have HRR := Lib.hid hrr
      clear hcr hrr
      have hfs : foldP P x ys (k + 1) = mulP P (foldP P x ys k) (ys.getD k []) := rfl
      have HFS := Lib.hid hfs
      clear hfs
      generalize foldP P x ys k = xk at *
      generalize ys.getD k [] = yk at *
      go_wp2_with (first
        | (refine wpList_load_mid rfl 87 (.tmp 19) rfl b _ rfl (vec yk) _ HYR.out Try.underlying87 rfl (by rw [length_vec]; exact info82) ?_)
        | (refine wpList_load_mid rfl 87 (.tmp 7) rfl wr.heap.size 0 rfl (vec yk) _ (range_new _ _) Try.underlying87 rfl (by rw [length_vec]; exact info82) ?_)
        | (go_at_call 82; refine (by_ok hv P.n _ (w.heap.size + 1) br xk yk HCR.out HRR.out (by omega) HNK.out (NV.small hv HYN.out)).mono ?_; rintro e w5 ⟨rfl, hc5, hg5⟩))
      go_roundw
      case rel => exact ⟨k + 1, by omega, by go_num, by (rw [HFS.out]; exact hc5), only_trans (only_trans HG.out (World.grownBy_alloc _ _ _)) hg5⟩
      case measure => simp [intOf]; omega
    · have hkn : k = ys.length := by omega
      subst hkn
      have hres : wr.heap[w.heap.size]? = some (.cells #[.int .i64 0, .int .i64 0, .int .i64 0, .int .i64 0, .int .i64 0, .int .i64 0, .int .i64 0, .int .i64 0, .int .i64 0, .int .i64 0, .int .i64 0, .int .i64 0] 87 (0, 0)) := (HG.out.block w.heap.size (by rw [HS1.out]; omega) (by simp)).trans HR1.out
      have HRes := Lib.hid hres
      clear hres
      go_wp2_with (first
        | (refine wpList_load_mid rfl 87 (.tmp 27) rfl (w.heap.size + 1) 1 rfl (vec (foldP P x ys ys.length)) _ HC.out.range Try.underlying87 rfl (by rw [length_vec]; exact info82) ?_)
        | (refine wpList_store_row rfl 87 (.tmp 4) (.tmp 28) rfl w.heap.size 87 _ (vec (foldP P x ys ys.length)).toArray rfl rfl HRes.out (by rw [size_vec]; exact info82) (by rw [size_vec]; rfl) (oneCell_vec _) ?_))
      refine bodyPost_ret (results_cell_row (P := Try.prog) rfl _ _ w.heap.size 87 (vec (foldP P x ys ys.length)).toArray (0, 0) _ rfl (setRow_heap _ _ _ _ _ _ HRes.out) Try.underlying87 rfl (by rw [size_vec]; exact info82)) rfl ⟨rfl, below_setRow HBw.out (Nat.le_refl _) _⟩
end Go.Proofs
namespace Go.Proofs
section
variable {F : Fence} {n : Nat} {P : Program} {ops : Array Oper} {Q : Exit → Act → World → Prop} {md : Region.Mode}
theorem count_set : ∀ (l : List Bool) (i : Nat), l[i]? = some false → (l.set i true).count false + 1 = l.count false
  | [], i, h => by simp at h
  | b :: l, 0, h => by
    simp at h
    subst h
    simp
  | b :: l, i + 1, h => by
    have ih := count_set l i (by simpa using h)
    simp only [List.set_cons_succ, List.count_cons]
    omega
theorem ready_mem {listed : Array Bool} {i : Nat} (h : i ∈ Region.ready md ops listed) : i < ops.size ∧ listed.getD i true = false ∧
    ∃ o, ops[i]? = some o ∧ ∀ e ∈ o.after.toList, Region.binds md e = true → listed.getD e.on false = true := by
  simp only [Region.ready, List.mem_filter, List.mem_range, Bool.and_eq_true, Bool.not_eq_true'] at h
  obtain ⟨h1, h2, h3⟩ := h
  refine ⟨h1, h2, ops[i], Array.getElem?_eq_getElem h1, fun e he hb => ?_⟩
  rw [Array.getElem?_eq_getElem h1] at h3
  simp only [Option.map_some, Option.getD_some] at h3
  rw [Array.all_eq_true_iff_forall_mem] at h3
  have := h3 e (by simpa using he)
  simpa [hb] using this
theorem wpAnyIn_inv (I : Array Bool → Act → World → Prop)
    (hstep : ∀ listed a w i, listed.size = ops.size → I listed a w → i ∈ Region.ready md ops listed → wpOpIn F n P ops Q i (I (listed.setIfInBounds i true)) a w)
    (hend : ∀ listed a w, listed.size = ops.size → I listed a w → Region.ready md ops listed = [] → Q .normal a w) :
    ∀ (fuel : Nat) (listed : Array Bool) (a : Act) (w : World), listed.size = ops.size → listed.toList.count false ≤ fuel → I listed a w → wpAnyIn F n P md ops Q fuel listed a w := by
  intro fuel
  induction fuel with
  | zero =>
    intro listed a w hs hc hI
    have hr : Region.ready md ops listed = [] := by
      rw [List.eq_nil_iff_forall_not_mem]
      intro i hi
      obtain ⟨h1, h2, _⟩ := ready_mem hi
      have hlt : i < listed.size := by omega
      have hf : listed[i] = false := by simpa [Array.getD, hlt] using h2
      have : false ∈ listed.toList := by rw [← hf]; simp
      have := List.count_pos_iff.2 this
      omega
    exact ⟨hr, hend _ _ _ hs hI hr⟩
  | succ fuel ih =>
    intro listed a w hs hc hI
    refine ⟨hend _ _ _ hs hI, fun i hi => ?_⟩
    obtain ⟨h1, h2, _⟩ := ready_mem hi
    have hlt : i < listed.size := by omega
    have hf : listed.toList[i]? = some false := by
      have : listed[i] = false := by simpa [Array.getD, hlt] using h2
      simp [hlt, this]
    have hcs := count_set listed.toList i hf
    refine wpOpIn_mono (fun a' w' h' => ih _ a' w' (by simpa using hs) ?_ h') (hstep listed a w i hs hI hi)
    rw [Array.toList_setIfInBounds]
    omega
/-- The frame but for the slots lo, lo+1, .., lo+N-1. -/
structure Same (a0 : Act) (lo N : Nat) (a : Act) : Prop where
  size : a.tmps.size = a0.tmps.size
  defers : a.defers = a0.defers
  out : ∀ t, t < lo ∨ lo + N ≤ t → a.tmps.getD t undef = a0.tmps.getD t undef
theorem Same.refl (a0 : Act) (lo N : Nat) : Same a0 lo N a0 := ⟨rfl, rfl, fun _ _ => rfl⟩
theorem Same.put {a0 a : Act} {lo N i : Nat} (h : Same a0 lo N a) (hi : i < N) (v : Value) : Same a0 lo N (a.put (some (lo + i)) v) :=
  ⟨by simpa [Act.put] using h.size, h.defers, fun t ht => by
    rw [← h.out t ht]
    have hne : lo + i ≠ t := by omega
    simp only [Act.put, Array.getD_eq_getD_getElem?]
    rw [Array.getElem?_setIfInBounds_ne hne]⟩
theorem put_getD_same (a : Act) (t : Nat) (v : Value) (h : t < a.tmps.size) : (a.put (some t) v).tmps.getD t undef = v := by
  simp [Act.put, Array.getD_eq_getD_getElem?, h]
theorem put_getD_ne (a : Act) (t u : Nat) (v : Value) (h : t ≠ u) : (a.put (some t) v).tmps.getD u undef = a.tmps.getD u undef := by
  simp only [Act.put, Array.getD_eq_getD_getElem?]
  rw [Array.getElem?_setIfInBounds_ne h]
/-- Every edge leads back; each of the first N operations has a successor up to N; operation N+1 waits for N. -/
structure Tailed (ops : Array Oper) (N : Nat) : Prop where
  size : ops.size = N + 2
  lex : ∀ (i : Nat) (o : Oper), ops[i]? = some o → ∀ e ∈ o.after.toList, e.on < i
  succ : ∀ i, i < N → ∃ (j : Nat) (o : Oper), i < j ∧ j ≤ N ∧ ops[j]? = some o ∧ ∃ e ∈ o.after.toList, e.on = i ∧ Region.binds .any e = true
  last : ∃ o : Oper, ops[N + 1]? = some o ∧ ∃ e ∈ o.after.toList, e.on = N ∧ Region.binds .any e = true
def tailedB (ops : Array Oper) (N : Nat) : Bool :=
  (ops.size == N + 2) && (List.range ops.size).all (fun i => match ops[i]? with | some o => o.after.toList.all fun e => decide (e.on < i) | none => true) &&
  (List.range N).all (fun i => (List.range (N + 1)).any fun j => decide (i < j) && (match ops[j]? with | some o => o.after.toList.any fun e => (e.on == i) && Region.binds .any e | none => false)) &&
  (match ops[N + 1]? with | some o => o.after.toList.any fun e => (e.on == N) && Region.binds .any e | none => false)
theorem tailed_of {ops : Array Oper} {N : Nat} (h : tailedB ops N = true) : Tailed ops N := by
  unfold tailedB at h
  simp only [Bool.and_eq_true] at h
  obtain ⟨⟨⟨h1, h2⟩, h3⟩, h4⟩ := h
  refine ⟨by simpa using h1, fun i o ho e he => ?_, fun i hi => ?_, ?_⟩
  · rw [List.all_eq_true] at h2
    have hi : i < ops.size := (Array.getElem?_eq_some_iff.1 ho).1
    have := h2 i (by simpa using hi)
    rw [ho] at this
    rw [List.all_eq_true] at this
    simpa using this e he
  · rw [List.all_eq_true] at h3
    have := h3 i (by simpa using hi)
    rw [List.any_eq_true] at this
    obtain ⟨j, hj, hjj⟩ := this
    rw [Bool.and_eq_true] at hjj
    obtain ⟨hij, hm⟩ := hjj
    cases ho : ops[j]? with
    | none => rw [ho] at hm; cases hm
    | some o =>
      rw [ho] at hm
      rw [List.any_eq_true] at hm
      obtain ⟨e, he, hee⟩ := hm
      rw [Bool.and_eq_true] at hee
      exact ⟨j, o, by simpa using hij, by simp at hj; omega, ho, e, he, by simpa using hee.1, hee.2⟩
  · cases ho : ops[N + 1]? with
    | none => rw [ho] at h4; cases h4
    | some o =>
      rw [ho] at h4
      rw [List.any_eq_true] at h4
      obtain ⟨e, he, hee⟩ := h4
      rw [Bool.and_eq_true] at hee
      exact ⟨o, rfl, e, he, by simpa using hee.1, hee.2⟩
/-- listed is closed downwards -/
def Closed (ops : Array Oper) (listed : Array Bool) : Prop := ∀ (i : Nat) (o : Oper), ops[i]? = some o → listed.getD i false = true → ∀ e ∈ o.after.toList, Region.binds .any e = true → listed.getD e.on false = true
theorem getD_set_listed {listed : Array Bool} {i j : Nat} (hi : i < listed.size) : (listed.setIfInBounds i true).getD j false = if i = j then true else listed.getD j false := by
  simp only [Array.getD_eq_getD_getElem?]
  by_cases e : i = j
  · subst e; simp [hi]
  · rw [Array.getElem?_setIfInBounds_ne e, if_neg e]
theorem getD_true_false {listed : Array Bool} {i : Nat} (hi : i < listed.size) : listed.getD i true = listed.getD i false := by
  simp [Array.getD, hi]
section
variable {F : Fence} {n : Nat} {P : Program} {ops : Array Oper} {Q : Exit → Act → World → Prop}
theorem Tailed.before {N : Nat} (ht : Tailed ops N) {listed : Array Bool} (hc : Closed ops listed) {o : Oper} (ho : ops[N]? = some o) (hp : ∀ e ∈ o.after.toList, Region.binds .any e = true → listed.getD e.on false = true) :
    ∀ k i, i < N → N - i ≤ k → listed.getD i false = true := by
  intro k
  induction k with
  | zero => intro i hi hk; omega
  | succ k ih =>
    intro i hi hk
    obtain ⟨j, oj, hij, hjN, hoj, e, he, rfl, hb⟩ := ht.succ i hi
    rcases Nat.lt_or_ge j N with h | h
    · exact hc j oj hoj (ih j h (by omega)) e he hb
    · have : j = N := by omega
      subst this
      rw [ho] at hoj
      cases hoj
      exact hp e he hb
theorem wpIn_region_tail {id : Nat} {a0 : Act} {w : World} (hm : P.follows .mixedOrders = true) (lo N : Nat) (ht : Tailed ops N) (S : World → Prop) (Φ : Nat → Value → World → Prop) (G : World → World → Prop)
    (hΦ : ∀ i v w w', G w w' → Φ i v w → Φ i v w')
    (hsz : lo + N ≤ a0.tmps.size) (h0 : S w.drew)
    (hop : ∀ (i : Nat) (o : Oper) (a : Act) (w : World), i < N → ops[i]? = some o → S w → Same a0 lo N a → (∀ e ∈ o.after.toList, Region.binds .any e = true → Φ e.on (a.tmps.getD (lo + e.on) undef) w) →
      o.guard = none ∧ o.dst = some (lo + i) ∧ o.wpIn F n P a w (fun a' w' => ∃ v, a' = a.put (some (lo + i)) v ∧ S w' ∧ G w w' ∧ Φ i v w') Q)
    (hend : ∀ (a : Act) (w : World), S w → Same a0 lo N a → (∀ i, i < N → Φ i (a.tmps.getD (lo + i) undef) w) →
      wpOpIn F n P ops Q N (fun a' w' => wpOpIn F n P ops Q (N + 1) (fun a'' w'' => Q .normal a'' w'') a' w') a w) :
    (Code.region id ops true).wpIn F n P Q a0 w := by
  refine wpIn_region_any hm ?_
  have hsize := ht.size
  refine wpAnyIn_inv (fun listed a w => Closed ops listed ∧
      ((listed.getD N false = false ∧ listed.getD (N + 1) false = false ∧ S w ∧ Same a0 lo N a ∧ ∀ i, i < N → listed.getD i false = true → Φ i (a.tmps.getD (lo + i) undef) w) ∨
       (listed.getD N false = true ∧ listed.getD (N + 1) false = false ∧ wpOpIn F n P ops Q (N + 1) (fun a'' w'' => Q .normal a'' w'') a w) ∨
       (listed.getD (N + 1) false = true ∧ Q .normal a w))) ?_ ?_ ops.size _ a0 _ (by simp) ?_ ⟨fun i o ho h => ?_, .inl ⟨?_, ?_, h0, Same.refl _ _ _, fun i hi h => ?_⟩⟩
  · rintro listed a w i hls ⟨hcl, hI⟩ hi
    obtain ⟨h1, h2, o, ho, hpre⟩ := ready_mem hi
    rw [getD_true_false (by omega)] at h2
    have hcl' : Closed ops (listed.setIfInBounds i true) := fun j oj hoj hl e he hb => by
      rw [getD_set_listed (by omega)] at hl ⊢
      by_cases eij : i = j
      · subst eij
        rw [ho] at hoj; cases hoj
        have := hpre e he hb
        split
        · rfl
        · exact this
      · rw [if_neg eij] at hl
        have := hcl j oj hoj hl e he hb
        split
        · rfl
        · exact this
    have hsetD : ∀ j, (listed.setIfInBounds i true).getD j false = if i = j then true else listed.getD j false := fun j => getD_set_listed (by omega)
    rcases hI with ⟨hN, hN1, hS, hsame, hsl⟩ | ⟨hN, hN1, hK⟩ | ⟨hN1, hQ⟩
    · rcases Nat.lt_or_ge i N with hiN | hiN
      · obtain ⟨hg, hd, hwp⟩ := hop i o a w hiN ho hS hsame (fun e he hb => by
          have hl := hpre e he hb
          have hlt := ht.lex i o ho e he
          exact hsl e.on (by omega) hl)
        unfold wpOpIn
        rw [ho]
        simp only [Region.wanted, hg, if_true]
        refine Oper.wpIn_mono (fun a' w' h => ?_) hwp
        obtain ⟨v, rfl, hS', hG, hv⟩ := h
        refine ⟨hcl', .inl ⟨by rw [hsetD, if_neg (by omega)]; exact hN, by rw [hsetD, if_neg (by omega)]; exact hN1, hS', hsame.put hiN v, fun j hj hl => ?_⟩⟩
        by_cases e : i = j
        · subst e
          rw [put_getD_same _ _ _ (by rw [hsame.size]; omega)]
          exact hv
        · rw [put_getD_ne _ _ _ _ (by omega)]
          rw [hsetD, if_neg e] at hl
          exact hΦ j _ _ _ hG (hsl j hj hl)
      · have hi2 : i = N ∨ i = N + 1 := by omega
        rcases hi2 with rfl | rfl
        · have hall := ht.before hcl ho hpre
          refine wpOpIn_mono (fun a' w' h => ?_) (hend a w hS hsame (fun j hj => hsl j hj (hall _ j hj (Nat.le_refl _))))
          exact ⟨hcl', .inr (.inl ⟨by rw [hsetD, if_pos rfl], by rw [hsetD, if_neg (by omega)]; exact hN1, h⟩)⟩
        · obtain ⟨o', ho', e, he, heN, hb⟩ := ht.last
          rw [ho] at ho'; cases ho'
          have := hpre e he hb
          rw [heN, hN] at this
          cases this
    · rcases Nat.lt_or_ge i N with hiN | hiN
      · have hoN : ∃ o, ops[N]? = some o := ⟨ops[N]'(by omega), Array.getElem?_eq_getElem (by omega)⟩
        obtain ⟨oN, hoN⟩ := hoN
        have := ht.before hcl hoN (hcl N oN hoN hN) _ i hiN (Nat.le_refl _)
        rw [h2] at this; cases this
      · have hi2 : i = N ∨ i = N + 1 := by omega
        rcases hi2 with rfl | rfl
        · rw [h2] at hN; cases hN
        · refine wpOpIn_mono (fun a' w' h => ?_) hK
          exact ⟨hcl', .inr (.inr ⟨by rw [hsetD, if_pos rfl], h⟩)⟩
    · have hN : listed.getD N false = true := by
        obtain ⟨o', ho', e, he, heN, hb⟩ := ht.last
        have := hcl (N + 1) o' ho' hN1 e he hb
        rwa [heN] at this
      rcases Nat.lt_or_ge i N with hiN | hiN
      · have hoN : ∃ o, ops[N]? = some o := ⟨ops[N]'(by omega), Array.getElem?_eq_getElem (by omega)⟩
        obtain ⟨oN, hoN⟩ := hoN
        have := ht.before hcl hoN (hcl N oN hoN hN) _ i hiN (Nat.le_refl _)
        rw [h2] at this; cases this
      · have hi2 : i = N ∨ i = N + 1 := by omega
        rcases hi2 with rfl | rfl
        · rw [h2] at hN; cases hN
        · rw [h2] at hN1; cases hN1
  · rintro listed a w hls ⟨hcl, hI⟩ hr
    have hready : ∀ i, i < ops.size → listed.getD i false = true := by
      intro i
      induction i using Nat.strongRecOn with
      | _ i ih =>
        intro hi
        rcases hl : listed.getD i false with _ | _
        · have hmem : i ∈ Region.ready .any ops listed := by
            simp only [Region.ready, List.mem_filter, List.mem_range, Bool.and_eq_true, Bool.not_eq_true']
            refine ⟨hi, by rw [getD_true_false (by omega)]; exact hl, ?_⟩
            rw [Array.getElem?_eq_getElem hi]
            simp only [Option.map_some, Option.getD_some]
            rw [Array.all_eq_true_iff_forall_mem]
            intro e he
            have hlt := ht.lex i _ (Array.getElem?_eq_getElem hi) e (by simpa using he)
            simp [ih e.on hlt (by omega)]
          rw [hr] at hmem; cases hmem
        · rfl
    rcases hI with ⟨hN, _⟩ | ⟨_, hN1, _⟩ | ⟨_, hQ⟩
    · rw [hready N (by omega)] at hN; cases hN
    · rw [hready (N + 1) (by omega)] at hN1; cases hN1
    · exact hQ
  · simp
  · have : (Array.replicate ops.size false).getD i false = false := by
      simp only [Array.getD_eq_getD_getElem?, Array.getElem?_replicate]; split <;> rfl
    rw [this] at h; cases h
  · simp only [Array.getD_eq_getD_getElem?, Array.getElem?_replicate]; split <;> rfl
  · simp only [Array.getD_eq_getD_getElem?, Array.getElem?_replicate]; split <;> rfl
  · have : (Array.replicate ops.size false).getD i false = false := by
      simp only [Array.getD_eq_getD_getElem?, Array.getElem?_replicate]; split <;> rfl
    rw [this] at h; cases h
end
end
end Go.Proofs
namespace Go.Proofs
open Go.RowKit Go.Proofs.Pc
section
variable {o : Oper} {a : Act} {w w' : World} {n : Nat} {next : Act → World → Prop} {Q : Exit → Act → World → Prop} {v : Value}
theorem wpW_val (hrun : (execOp a.eval o).run Try.prog w = .ok (.value v) w') (h : next (a.put o.dst v) w') : o.wpIn Fence.wide n Try.prog a w next Q :=
  ⟨fun _ _ => trivial, by rw [Fence.wide_round, Oper.semAt_none, hrun]; exact h⟩
theorem wpW_call {f : FuncId} {args : Array Value} {R : Value → World → Prop} (hrun : (execOp a.eval o).run Try.prog w = .ok (.enter f args) w')
    (hc : Calls Try.prog f args w' fun e w'' => ∃ v, e = .returned v ∧ R v w'') (h : ∀ v w'', R v w'' → next (a.put o.dst v) w'') : o.wpIn Fence.wide n Try.prog a w next Q :=
  ⟨fun _ _ => trivial, by
    rw [Fence.wide_round, Oper.semAt_none, hrun]
    refine ⟨fun hh => by simp [Fence.wide] at hh, callsIn_wide.2 (hc.mono ?_)⟩
    rintro e w'' ⟨v, rfl, hR⟩
    exact h v w'' hR⟩
theorem r_move (x : Operand) (ho : o.op = .move x) (hx : a.eval x = v) : (execOp a.eval o).run Try.prog w = .ok (.value v) w := by
  unfold execOp; simp only [ho, hx]; rfl
theorem r_nil (x : Operand) (ad : Addr) (ho : o.op = .nilCheck x) (hx : a.eval x = .pointer (some ad)) : (execOp a.eval o).run Try.prog w = .ok (.value (.pointer (some ad))) w := by
  unfold execOp; simp only [ho, hx]; rfl
theorem agg62 (w : World) : (isAgg 62).run Try.prog w = .ok false w := by kernel_rfl
theorem agg3 (w : World) : (isAgg 3).run Try.prog w = .ok false w := by kernel_rfl
theorem r_load62 (x : Operand) (ad : Addr) (ho : o.op = .load 62 x) (hx : a.eval x = .pointer (some ad)) (hc : w.cell? ad = some v) : (execOp a.eval o).run Try.prog w = .ok (.value v) w := by
  unfold execOp
  simp only [ho, hx, Instr.loadAt, Instr.sureAddr, loadVar, Sem.run_bind, Sem.run_pure, Result.andThen_ok, agg62]
  simp [go_sem, hc]
theorem r_load3 (x : Operand) (ad : Addr) (ho : o.op = .load 3 x) (hx : a.eval x = .pointer (some ad)) (hc : w.cell? ad = some v) : (execOp a.eval o).run Try.prog w = .ok (.value v) w := by
  unfold execOp
  simp only [ho, hx, Instr.loadAt, Instr.sureAddr, loadVar, Sem.run_bind, Sem.run_pure, Result.andThen_ok, agg3]
  simp [go_sem, hc]
theorem r_load82 (x : Operand) (b k : Nat) (xs : List Int) (ho : o.op = .load 87 x) (hx : a.eval x = .pointer (some ⟨b, k, none⟩)) (hc : w.rangeAt b k (vec xs)) : (execOp a.eval o).run Try.prog w = .ok (.value (.agg (vec xs).toArray)) w := by
  unfold execOp
  simp only [ho, hx, Sem.run_bind, run_loadAt_mid (P := Try.prog) w b k 87 (vec xs) _ hc Try.underlying87 rfl (by rw [length_vec]; exact info82), Result.andThen_ok]
  rfl
theorem fld86_1 (b k : Nat) (w : World) : (Instr.fieldAt 91 (.pointer (some ⟨b, k, none⟩)) 1).run Try.prog w = .ok (.pointer (some ⟨b, k + 1, none⟩)) w := by kernel_rfl
theorem fld86_2 (b k : Nat) (w : World) : (Instr.fieldAt 91 (.pointer (some ⟨b, k, none⟩)) 2).run Try.prog w = .ok (.pointer (some ⟨b, k + 13, none⟩)) w := by kernel_rfl
theorem fld113_1 (b k : Nat) (w : World) : (Instr.fieldAt 117 (.pointer (some ⟨b, k, none⟩)) 1).run Try.prog w = .ok (.pointer (some ⟨b, k + 1, none⟩)) w := by kernel_rfl
theorem r_fld {T i : Nat} (x : Operand) (ad : Value) (ho : o.op = .fieldAddr T x i) (hx : a.eval x = ad) (hf : (Instr.fieldAt T ad i).run Try.prog w = .ok v w) : (execOp a.eval o).run Try.prog w = .ok (.value v) w := by
  unfold execOp; simp only [ho, hx, Sem.run_bind, hf, Result.andThen_ok]; rfl
theorem idx_run (T E sz len : Nat) (hu : Try.prog.underlying T = some (.array len E)) (hs : ∀ w, (sizeOf E).run Try.prog w = .ok sz w) (b k i : Nat) (hi : i < len) (w : World) :
    (Instr.indexAt T (.pointer (some ⟨b, k, none⟩)) (.int .i64 (i : Int))).run Try.prog w = .ok (.pointer (some ⟨b, k + i * sz, none⟩)) w := by
  have h1 : (0 : Int) ≤ (i : Int) ∧ (i : Int) < (len : Int) := ⟨by omega, by omega⟩
  have h2 := Addr.add_mid b k (i * sz)
  simp [Instr.indexAt, asIntOf, run_underlying hu, Instr.sureAddr, hs, h2]
  intro h
  omega
theorem r_idx {T : Nat} (x y : Operand) (ad i : Value) (ho : o.op = .indexAddr T x y) (hx : a.eval x = ad) (hy : a.eval y = i) (hf : (Instr.indexAt T ad i).run Try.prog w = .ok v w) : (execOp a.eval o).run Try.prog w = .ok (.value v) w := by
  unfold execOp; simp only [ho, hx, hy, Sem.run_bind, hf, Result.andThen_ok]; rfl
theorem r_bs2 (x y : Operand) (xs ys : List Int) (ho : o.op = .buildSlice 143 2 #[(0, x), (1, y)]) (hx : a.eval x = .agg (vec xs).toArray) (hy : a.eval y = .agg (vec ys).toArray) :
    (execOp a.eval o).run Try.prog w = .ok (.value (.slice (some ⟨w.heap.size, 0, none⟩) 2 2)) (w.alloc (.cells (vec xs ++ vec ys).toArray 87)) := by
  have hb := bslice2 xs ys w
  unfold execOp
  simp only [ho, List.map_toArray, List.map_cons, List.map_nil, hx, hy, Sem.run_bind, hb, Result.andThen_ok]
  rfl
theorem r_bs3 (x y z : Operand) (xs ys zs : List Int) (ho : o.op = .buildSlice 143 3 #[(0, x), (1, y), (2, z)]) (hx : a.eval x = .agg (vec xs).toArray) (hy : a.eval y = .agg (vec ys).toArray) (hz : a.eval z = .agg (vec zs).toArray) :
    (execOp a.eval o).run Try.prog w = .ok (.value (.slice (some ⟨w.heap.size, 0, none⟩) 3 3)) (w.alloc (.cells (vec xs ++ vec ys ++ vec zs).toArray 87)) := by
  have hb := bslice3 xs ys zs w
  unfold execOp
  simp only [ho, List.map_toArray, List.map_cons, List.map_nil, hx, hy, hz, Sem.run_bind, hb, Result.andThen_ok]
  rfl
theorem r_call2 {f : FuncId} (x y : Operand) (u v : Value) (T : Array TypeId) (ho : o.op = .call { callee := .value (.func f), args := #[x, y], argTypes := T }) (hx : a.eval x = u) (hy : a.eval y = v)
    (he : ∀ args w, (callFunc f args).run Try.prog w = .ok (.enter f args) w) : (execOp a.eval o).run Try.prog w = .ok (.enter f #[u, v]) w := by
  have hf : a.eval (.func f) = .func (.func f) #[] #[] := rfl
  unfold execOp
  simp only [ho, resolve, List.map_toArray, List.map_cons, List.map_nil, hx, hy, hf]
  simp [go_sem, he]
theorem r_sub1 (x : Operand) (m : Int) (ho : o.op = .binOp .sub 3 x (.const (.int .i64 1)) 3) (hx : a.eval x = .int .i64 m) (hm : -9223372036854775807 ≤ m ∧ m ≤ 9223372036854775807) : (execOp a.eval o).run Try.prog w = .ok (.value (.int .i64 (m - 1))) w := by
  have hwr : IntKind.i64.wrap (m - 1) = m - 1 := IntWalk.i64_in _ (by omega)
  have hc : a.eval (.const (.int .i64 1)) = .int .i64 1 := rfl
  unfold execOp
  simp only [ho, hx, hc]
  simp [go_sem, hwr]
theorem r_yield {l : Nat} {fn : FuncId} {tmps : Array Value} {assign body : Code} (f x y : Operand) (u v : Value) (T : Array TypeId) (ho : o.op = .call { callee := .value f, args := #[x, y], argTypes := T }) (hf : a.eval f = .func (.yield l) #[] #[]) (hx : a.eval x = u) (hy : a.eval y = v)
    (hr : (Instr.yield l #[u, v]).run Try.prog w = .ok (.round l fn tmps assign body) w) : (execOp a.eval o).run Try.prog w = .ok (.round l fn tmps assign body) w := by
  unfold execOp
  simp only [ho, resolve, List.map_toArray, List.map_cons, List.map_nil, hf, hx, hy]
  simp [go_sem, hr]
theorem wpW_yield {l : Nat} {args : Array Value} {R : Ending → World → Prop} (hy : YieldAt Fence.wide (n - 1) Try.prog l args w R)
    (hrun : ∀ fn tmps assign body, (Instr.yield l args).run Try.prog w = .ok (.round l fn tmps assign body) w → (execOp a.eval o).run Try.prog w = .ok (.round l fn tmps assign body) w)
    (hR : ∀ e w', R e w' → ∃ b, e = .returned (.bool b) ∧ next (a.put o.dst (.bool b)) w') : o.wpIn Fence.wide n Try.prog a w next Q := by
  obtain ⟨fn, tmps, assign, body, h1, h2⟩ := hy
  refine ⟨fun _ _ => trivial, ?_⟩
  rw [Fence.wide_round, Oper.semAt_none, hrun _ _ _ _ h1]
  refine ⟨fun hh => by simp [Fence.wide] at hh, h2.mono ?_⟩
  intro e w' hw
  obtain ⟨b, rfl, hn⟩ := hR e w' hw
  exact hn
theorem r_not (x : Operand) (b : Bool) (ho : o.op = .unOp .not 4 x) (hx : a.eval x = .bool b) : (execOp a.eval o).run Try.prog w = .ok (.value (.bool !b)) w := by
  unfold execOp; simp only [ho, hx]; rfl
end
/-- The frame behind a region, written out. -/
theorem Same.frame {a0 a : Act} {lo N : Nat} (h : Same a0 lo N a) (hsz : lo + N ≤ a0.tmps.size) :
    a = { tmps := (a0.tmps.toList.take lo ++ (List.range N).map (fun i => a.tmps.getD (lo + i) undef) ++ a0.tmps.toList.drop (lo + N)).toArray, defers := a0.defers } := by
  obtain ⟨t, d⟩ := a
  have hd := h.defers
  have hs := h.size
  simp only at hd hs
  subst hd
  congr 1
  apply Array.ext'
  apply List.ext_getElem?
  intro k
  have hg : ∀ j, j < t.size → t.toList[j]? = some (t.getD j undef) := fun j hj => by simp [Array.getD, hj]
  have hg0 : ∀ j, j < a0.tmps.size → a0.tmps.toList[j]? = some (a0.tmps.getD j undef) := fun j hj => by simp [Array.getD, hj]
  rcases Nat.lt_or_ge k t.size with hk | hk
  · rw [hg k hk]
    rcases Nat.lt_or_ge k lo with h1 | h1
    · rw [List.getElem?_append_left (by simp; omega), List.getElem?_append_left (by simp; omega), List.getElem?_take, if_pos h1, hg0 k (by omega), h.out k (.inl h1)]
    · rcases Nat.lt_or_ge k (lo + N) with h2 | h2
      · rw [List.getElem?_append_left (by simp; omega), List.getElem?_append_right (by simp; omega)]
        have e : min lo a0.tmps.size = lo := by omega
        simp [e, List.getElem?_map, List.getElem?_range (show k - lo < N by omega), show lo + (k - lo) = k by omega]
      · rw [List.getElem?_append_right (by simp; omega)]
        have e : min lo a0.tmps.size = lo := by omega
        simp only [List.length_append, List.length_take, List.length_map, List.length_range, Array.length_toList, e, List.getElem?_drop]
        rw [show lo + N + (k - (lo + N)) = k by omega, hg0 k (by omega), h.out k (.inr h2)]
  · rw [List.getElem?_eq_none (by simpa using hk), List.getElem?_eq_none (by simp; omega)]
end Go.Proofs
namespace Go.Proofs
open Go.RowKit Go.Proofs.Pc
theorem wide_fn (f : FuncId) : Fence.wide.fn f := trivial
inductive SV where
  | c (v : Value)
  | vs (l : List (List Int))
  | any
def SV.holds : SV → Value → World → Prop
  | SV.c u, v, _ => v = u
  | SV.vs l, v, w => VecsAt w v l
  | SV.any, _, _ => True
theorem VecsAt.below {w w' : World} {v : Value} {l : List (List Int)} (h : VecsAt w v l) (hb : Below w.heap.size w w') : VecsAt w' v l := by
  obtain ⟨b, cap, rfl, h1, h2, h3⟩ := h
  refine ⟨b, cap, rfl, h1, h2, fun i hi j u hu => ?_⟩
  have := h3 i hi j u hu
  rw [hb.cell (World.block_lt_of_cell? w _ this)]
  exact this
theorem SV.keep {s : SV} {v : Value} {w w' : World} (h : Below w.heap.size w w') : s.holds v w → s.holds v w' := by
  cases s with
  | c _ => exact id
  | vs l => exact fun hh => VecsAt.below hh h
  | any => exact id
/-- whatever block of cells lay, lies -/
def KC (w w' : World) : Prop := w.heap.size ≤ w'.heap.size ∧ ∀ (k : Nat) (C : Array Value) (t : TypeId) (fr : Nat × Nat), w.heap[k]? = some (Obj.cells C t fr) → w'.heap[k]? = some (Obj.cells C t fr)
theorem KC.refl (w : World) : KC w w := ⟨Nat.le_refl _, fun _ _ _ _ h => h⟩
theorem KC.trans {a b c : World} (h : KC a b) (k : KC b c) : KC a c := ⟨Nat.le_trans h.1 k.1, fun i C t fr hi => k.2 i C t fr (h.2 i C t fr hi)⟩
theorem KC.of_below {w w' : World} (h : Below w.heap.size w w') : KC w w' := ⟨h.size, fun k _C _t _fr hk => (h.block k (Array.getElem?_eq_some_iff.1 hk).1).trans hk⟩
theorem KC.put {W : World} {l : Nat} {o o' : Obj} (h : W.heap[l]? = some o) (hc : o.isCells = false) : KC W (W.putObj l o') :=
  ⟨by simp, fun k C t fr hk => by
    by_cases e : k = l
    · subst e; rw [h] at hk; cases hk; cases hc
    · exact (World.putObj_heap_other e).trans hk⟩
theorem KC.cell {w w' : World} (h : KC w w') {a : Addr} {v : Value} (hc : w.cell? a = some v) : w'.cell? a = some v := by
  unfold World.cell? at hc ⊢
  cases ho : w.heap[a.block]? with
  | none => simp [ho] at hc
  | some o =>
    cases o with
    | cells C t fr => rw [h.2 _ C t fr ho]; simpa [ho] using hc
    | _ => simp [ho] at hc
theorem KC.range {w w' : World} (h : KC w w') {b o : Nat} {cs : List Value} (hc : w.rangeAt b o cs) : w'.rangeAt b o cs := fun j v hv => h.cell (hc j v hv)
theorem KC.rules {w w' : World} (h : KC w w') {br : Nat} {P : PcD} (hr : RulesAt w br P) : RulesAt w' br P :=
  ⟨h.cell hr.n, h.range hr.ord, fun i hi => h.range (hr.pow i hi), fun j hj i hi => h.range (hr.cj j hj i hi)⟩
theorem call71 (args : Array Value) (w : World) : (callFunc 73 args).run Try.prog w = .ok (.enter 73 args) w := 
  enters_of Try.func73 (by kernel_rfl) rfl args w
theorem call81 (args : Array Value) (w : World) : (callFunc 83 args).run Try.prog w = .ok (.enter 83 args) w := 
  enters_of Try.func83 (by kernel_rfl) rfl args w
theorem nvs1 {P : PcD} {y : List Int} (h : NV P y) : ∀ i, i < [y].length → NV P ([y].getD i []) := fun i hi => by
  have : i = 0 := by simp at hi; omega
  subst this; exact h
theorem nvs2 {P : PcD} {y z : List Int} (h : NV P y) (h2 : NV P z) : ∀ i, i < [y, z].length → NV P ([y, z].getD i []) := fun i hi => by
  have : i = 0 ∨ i = 1 := by simp at hi; omega
  rcases this with rfl | rfl
  · exact h
  · exact h2
theorem mul_R {P : PcD} (hv : Valid P) {w : World} {br : Nat} {sv : Value} {x : List Int} {ys : List (List Int)} (hr : RulesAt w br P) (hs : VecsAt w sv (x :: ys)) (hx : NV P x) (hy : ∀ i, i < ys.length → NV P (ys.getD i [])) (hpos : 0 < ys.length) :
    Calls Try.prog 73 #[.pointer (some ⟨br, 0, none⟩), sv] w fun e w' => ∃ v, e = .returned v ∧ (v = .agg (vec (foldP P x ys ys.length)).toArray ∧ Below w.heap.size w w') :=
  (mul_any hv w br sv x ys hr hs hx hy hpos).mono fun _e _w' ⟨he, hb⟩ => ⟨_, he, rfl, hb⟩
theorem mul_R1 {P : PcD} (hv : Valid P) {w : World} {br : Nat} {sv : Value} {x y : List Int} (hr : RulesAt w br P) (hs : VecsAt w sv [x, y]) (hx : NV P x) (hy : NV P y) :
    Calls Try.prog 73 #[.pointer (some ⟨br, 0, none⟩), sv] w fun e w' => ∃ v, e = .returned v ∧ (v = .agg (vec (mulP P x y)).toArray ∧ Below w.heap.size w w') :=
  mul_R hv hr hs hx (nvs1 hy) (by simp)
theorem vec_unit {P : PcD} {i : Nat} {x : Int} (hi : i < P.n) (hn : P.n ≤ 12) : vec (unitP i x) = vec (uP P i x) := by
  unfold vec
  refine List.map_congr_left fun k hk => ?_
  rw [getD_unitP _ _ _ (by omega), getD_uP]
  by_cases h : k = i
  · subst h; rw [if_pos rfl, if_pos ⟨rfl, hi⟩]
  · rw [if_neg h, if_neg (fun hh => h hh.1)]
theorem unit_R (P : PcD) (i : Nat) (x : Int) (hi : i < P.n) (hn : P.n ≤ 12) {w : World} :
    Calls Try.prog 83 #[.int .i64 i, .int .i64 x] w fun e w' => ∃ v, e = .returned v ∧ (v = .agg (vec (uP P i x)).toArray ∧ Below w.heap.size w w') :=
  (unit_any w i x (by omega)).mono fun e w' ⟨he, hb⟩ => ⟨_, he, by rw [vec_unit hi hn], hb⟩
theorem wpOpIn_of {F : Fence} {n : Nat} {P : Program} {ops : Array Oper} {Q : Exit → Act → World → Prop} {i : Nat} {o : Oper} {K : Act → World → Prop} {a : Act} {w : World} (ho : ops[i]? = some o) (hg : o.guard = none) (h : o.wpIn F n P a w K Q) : wpOpIn F n P ops Q i K a w := by
  unfold wpOpIn
  rw [ho]
  simp only [Region.wanted, hg, if_true]
  exact h
section
variable {o : Oper} {rest : List Oper} {ops : Array Oper} {a : Act} {w w' : World} {n : Nat} {Q : Exit → Act → World → Prop} {v : Value}
theorem wpListIn_sel (s : Nat) {F : Fence} {op : Op} {t : TypeId} {p : String} {af : Array Edge} {g : Option (Nat × Bool)} (h : wpListIn F n Try.prog ops Q (⟨some s, op, t, p, af, g⟩ :: rest) a w) : wpListIn F n Try.prog ops Q (⟨some s, op, t, p, af, g⟩ :: rest) a w := h
theorem wpListIn_val (hg : o.guard = none) (hrun : (execOp a.eval o).run Try.prog w = .ok (.value v) w') (h : wpListIn Fence.wide n Try.prog ops Q rest (a.put o.dst v) w') : wpListIn Fence.wide n Try.prog ops Q (o :: rest) a w :=
  wpListIn_plain hg fun _ hK => wpW_val hrun (hK _ _ h)
theorem wpListIn_callW {f : FuncId} {args : Array Value} {R : Value → World → Prop} (hg : o.guard = none) (hrun : (execOp a.eval o).run Try.prog w = .ok (.enter f args) w')
    (hc : Calls Try.prog f args w' fun e w'' => ∃ v, e = .returned v ∧ R v w'') (h : ∀ v w'', R v w'' → wpListIn Fence.wide n Try.prog ops Q rest (a.put o.dst v) w'') : wpListIn Fence.wide n Try.prog ops Q (o :: rest) a w :=
  wpListIn_plain hg fun _ hK => wpW_call hrun hc (fun v w'' hR => hK _ _ (h v w'' hR))
end
theorem r_bld113 {o : Oper} {a : Act} {w : World} (x y : Operand) (br : Nat) (xs : List Int) (ho : o.op = .build 117 #[(0, x), (1, y)]) (hx : a.eval x = .pointer (some ⟨br, 0, none⟩)) (hy : a.eval y = .agg (vec xs).toArray) :
    (execOp a.eval o).run Try.prog w = .ok (.value (.agg (Value.pointer (some ⟨br, 0, none⟩) :: vec xs).toArray)) w := by
  have hb := build113 br xs w
  unfold execOp
  simp only [ho, List.map_toArray, List.map_cons, List.map_nil, hx, hy, Sem.run_bind, hb, Result.andThen_ok]
  rfl
def LJ (P : PcD) (i j : Nat) : List (List Int × List Int) := ovI P i ++ ([pI P i] ++ ovJ P i j)
def LK (P : PcD) (i j k : Nat) : List (List Int × List Int) := LJ P i j ++ [pJ1 P i j] ++ [pJ2 P i j] ++ ovK P i j k
theorem LJ_start (P : PcD) (i : Nat) : LJ P i (i + 1) = ovI P i ++ [pI P i] := by
  have e : ovJ P i (i + 1) = [] := by unfold ovJ; rw [Nat.sub_self]; rfl
  unfold LJ
  rw [e, List.append_nil]
theorem LJ_end (P : PcD) (i : Nat) : LJ P i P.n = ovI P (i + 1) := rfl
theorem LK_start (P : PcD) (i j : Nat) : LK P i j (j + 1) = LJ P i j ++ [pJ1 P i j] ++ [pJ2 P i j] := by
  have e : ovK P i j (j + 1) = [] := by unfold ovK; rw [Nat.sub_self]; rfl
  unfold LK
  rw [e, List.append_nil]
theorem LK_end (P : PcD) {i j : Nat} (h : i + 1 ≤ j) : LK P i j P.n = LJ P i (j + 1) := by
  unfold LK LJ
  rw [ovJ_succ P h]
  simp
theorem LK_succ (P : PcD) {i j k : Nat} (h : j + 1 ≤ k) : LK P i j (k + 1) = LK P i j k ++ [pK P i j k] := by
  unfold LK
  rw [ovK_succ P h]
  simp
theorem pre_1 (P : PcD) {i j : Nat} (hi : i < P.n) (h : i + 1 ≤ j) (hj : j < P.n) : Pre (LJ P i j ++ [pJ1 P i j]) (ovl P) := by
  have := pre_J' P hi h hj (x := [pJ1 P i j]) ⟨_, rfl⟩
  simpa [LJ] using this
theorem pre_2 (P : PcD) {i j : Nat} (hi : i < P.n) (h : i + 1 ≤ j) (hj : j < P.n) : Pre (LJ P i j ++ [pJ1 P i j] ++ [pJ2 P i j]) (ovl P) := by
  have := pre_J' P hi h hj (x := [pJ1 P i j, pJ2 P i j]) ⟨_, rfl⟩
  simpa [LJ] using this
theorem pre_3 (P : PcD) {i j k : Nat} (hi : i < P.n) (h : i + 1 ≤ j) (hj : j < P.n) (hk : j + 1 ≤ k) (hkn : k < P.n) : Pre (LK P i j k ++ [pK P i j k]) (ovl P) := by
  rw [← LK_succ P hk]
  have := pre_J' P hi h hj (x := [pJ1 P i j, pJ2 P i j] ++ ovK P i j (k + 1)) (Pre.app _ (pre_ovK P (by omega)))
  simpa [LJ, LK] using this
theorem KC.alloc {w w' : World} (h : KC w w') (o : Obj) : KC w (w'.alloc o) := h.trans (KC.of_below ((Below.refl _ _).alloc (Nat.le_refl _) _))
theorem KC.below {w w' w'' : World} (h : KC w w') (hb : Below w'.heap.size w' w'') : KC w w'' := h.trans (KC.of_below hb)
def encP (p : List Int × List Int) : Array Value := #[.agg (vec p.1).toArray, .agg (vec p.2).toArray]
end Go.Proofs
