import Derived.Test.YtnhoiompdjabbaaVec
namespace Go.Proofs
open Go.RowKit Go.Proofs.Pc

def unitP (i : Nat) (x : Int) : List Int := ((List.range 12).map fun k => if k = i then x else 0)
theorem getD_unitP (i k : Nat) (x : Int) (hi : i < 12) : (unitP i x).getD k 0 = if k = i then x else 0 := by
  unfold unitP
  rcases Nat.lt_or_ge k 12 with hk | hk
  · simp [List.getD_eq_getElem?_getD, List.getElem?_range hk]
  · rw [List.getD_eq_getElem?_getD, List.getElem?_eq_none (by simpa using hk), if_neg (by omega)]
    rfl

theorem store_vec_same (w : World) (x y : List Int) : Sem.run Try.prog (storeCells ⟨w.heap.size, 0, none⟩ (vec x)) (w.alloc (.cells (vec y).toArray 82)) = .ok () (w.alloc (.cells (vec x).toArray 82)) :=
  run_storeCells_new (P := Try.prog) w 82 _ (vec x).toArray (by rw [size_vec]; exact info82) (by rw [size_vec, size_vec]) (oneCell_vec x)
theorem range_new (w : World) (x : List Int) : (w.alloc (.cells (vec x).toArray 82)).rangeAt w.heap.size 0 (vec x) := fun j v hv => by
  rw [cell_of_row _ _ _ _ _ _ (heap_alloc_new w _)]
  simpa using hv

set_option maxRecDepth 100000 in
theorem unit_any (w : World) (i : Nat) (x : Int) (hi : i < 12) :
    Calls Try.prog 81 #[.int .i64 i, .int .i64 x] w fun e w' => e = .returned (.agg (vec (unitP i x)).toArray) ∧ Below w.heap.size w w' := by
  have hi0 : (0 : Int) ≤ (i : Int) := Int.natCast_nonneg _
  have hi1 : (i : Int) < 12 := by omega
  have hz : [Value.int .i64 0, Value.int .i64 0, Value.int .i64 0, Value.int .i64 0, Value.int .i64 0, Value.int .i64 0, Value.int .i64 0, Value.int .i64 0, Value.int .i64 0, Value.int .i64 0, Value.int .i64 0, Value.int .i64 0].set i (.int .i64 x) = vec (unitP i x) := by
    apply List.ext_getElem?
    intro k
    rw [List.getElem?_set]
    rcases Nat.lt_or_ge k 12 with hk | hk
    · rw [getElem?_vec _ hk, getD_unitP _ _ _ hi]
      by_cases e : i = k
      · subst e; simp [hi]
      · rw [if_neg e, if_neg (Ne.symm e)]
        exact getElem?_vec [] hk
    · have : i ≠ k := by omega
      rw [if_neg this, List.getElem?_eq_none (by simpa using hk), List.getElem?_eq_none (by rw [length_vec]; exact hk)]
  have hst := store_vec_same
  go_enter Try.func81, Try.ntmps81
  go_wp2_with (first | (refine wpList_load_mid rfl 82 (.tmp 4) rfl w.heap.size 0 rfl (vec (unitP i x)) _ (range_new _ _) Try.underlying82 rfl (by rw [length_vec]; exact info82) ?_))
  refine bodyPost_ret (results_cell_row (P := Try.prog) rfl _ _ w.heap.size 82 (vec (unitP i x)).toArray (0, 0) _ rfl (heap_alloc_new w _) Try.underlying82 rfl (by rw [size_vec]; exact info82)) rfl ⟨rfl, (Below.refl _ _).alloc (Nat.le_refl _) _⟩

section
variable {ops : Array Oper} {rest : List Oper} {op : Oper} {a : Act} {w : World} {Q : Exit → Act → World → Prop}
theorem wpList_build113 (hgd : op.guard = none) (x y : Operand) (ho : op.op = .build 113 #[(0, x), (1, y)]) (br : Nat) (xs : List Int) (hx : a.eval x = .pointer (some ⟨br, 0, none⟩)) (hy : a.eval y = .agg (vec xs).toArray)
    (h : wpList Try.prog ops Q rest (a.put op.dst (.agg (Value.pointer (some ⟨br, 0, none⟩) :: vec xs).toArray)) w) : wpList Try.prog ops Q (op :: rest) a w :=
  wpList_plain hgd fun _ hK => by
    have hb := build113 br xs w
    unfold Oper.wp execOp
    simp only [ho, List.map_toArray, List.map_cons, List.map_nil, hx, hy, Sem.run_bind, hb, Result.andThen_ok, Sem.run_pure]
    exact hK _ _ h
theorem wpList_bslice2 (hgd : op.guard = none) (x y : Operand) (ho : op.op = .buildSlice 125 2 #[(0, x), (1, y)]) (xs ys : List Int) (hx : a.eval x = .agg (vec xs).toArray) (hy : a.eval y = .agg (vec ys).toArray)
    (h : wpList Try.prog ops Q rest (a.put op.dst (.slice (some ⟨w.heap.size, 0, none⟩) 2 2)) (w.alloc (.cells (vec xs ++ vec ys).toArray 82))) : wpList Try.prog ops Q (op :: rest) a w :=
  wpList_plain hgd fun _ hK => by
    have hb := bslice2 xs ys w
    unfold Oper.wp execOp
    simp only [ho, List.map_toArray, List.map_cons, List.map_nil, hx, hy, Sem.run_bind, hb, Result.andThen_ok, Sem.run_pure]
    exact hK _ _ h
end

end Go.Proofs
