/- Two arrays of twelve numbers compared. -/
import Derived.Test.YtnhoiompdjabbaaIt
import Derived.ChangeKeysEq
import Derived.RangeFuncNested
namespace Go.Proofs
open Go.RowKit Go.Proofs.Pc

theorem vec_get (xs : List Int) {k : Nat} (h : k < 12) : (vec xs).toArray[k]? = some (.int .i64 (xs.getD k 0)) := by
  unfold vec
  rw [List.getElem?_toArray, List.getElem?_map, List.getElem?_range h]
  rfl
theorem plain3 : Try.prog.plainKey 3 = true := by kernel_rfl
theorem und82 : Try.prog.underlying 82 = some (.array 12 3) := by kernel_rfl
theorem und3 : Try.prog.underlying 3 = some (.int .i64) := by kernel_rfl
theorem cellsOf3 : Try.prog.cellsOf 3 = 1 := by kernel_rfl
theorem info3 : ∃ i, Try.prog.info? 3 = some i := by
  have h : (Try.prog.info? 3).isSome = true := by kernel_rfl
  exact Option.isSome_iff_exists.1 h
theorem eqItems12 (xs ys : List Int) (w : World) : ∀ (is : List Nat), (∀ i ∈ is, i < 12) → (Op.eqItems 9999 3 1 (vec xs).toArray (vec ys).toArray is).run Try.prog w = .ok (is.all fun k => xs.getD k 0 == ys.getD k 0) w
  | [], _ => by simp [Op.eqItems]
  | i :: is, h => by
    have hi := h i (by simp)
    have ih := eqItems12 xs ys w is (fun j hj => h j (by simp [hj]))
    have h1 := run_part_plain w plain3 (vec_get xs hi)
    have h2 := run_part_plain w plain3 (vec_get ys hi)
    have h3 := run_equalIn_int (P := Try.prog) w 9998 3 .i64 .i64 (xs.getD i 0) (ys.getD i 0) und3
    simp only [Op.eqItems, Sem.run_bind, Nat.mul_one, h1, h2, h3, Result.andThen_ok, List.all_cons]
    cases xs.getD i 0 == ys.getD i 0
    · simp
    · simpa using ih
theorem neq82 (xs ys : List Int) (w : World) : (binOp .neq 82 (.agg (vec xs).toArray) (.agg (vec ys).toArray)).run Try.prog w = .ok (.bool (!eq12 xs ys)) w := by
  obtain ⟨i, hi⟩ := info3
  rw [run_neq_struct, run_equalIn_array w 9999 _ _ und82 hi, cellsOf3, eqItems12 xs ys w _ (fun i hi => by simpa using hi)]
  rfl
end Go.Proofs
