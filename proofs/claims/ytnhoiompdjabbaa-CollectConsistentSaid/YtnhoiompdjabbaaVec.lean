/- Vectors by value: stores, loads, builds; the contracts of unit, mul, list. -/
import Derived.Test.YtnhoiompdjabbaaBy
import Derived.Test.YtnhoiompdjabbaaTm
import Derived.Test.YtnhoiompdjabbaaOf0
import Derived.Test.YtnhoiompdjabbaaOvM
namespace Go.Proofs
open Go.RowKit Go.Proofs.Pc

theorem times_ok {P : PcD} (hv : Valid P) : ∀ d, TimesOk P d
  | 0 => fun w bc br x i _ _ _ _ hi hd => absurd hd (by omega)
  | d + 1 => times_of_by hv (by_of_times hv (times_ok hv d))
theorem by_ok {P : PcD} (hv : Valid P) (d : Nat) : ByOk P d := by_of_times hv (times_ok hv d)

theorem Pc.NV.small {P : PcD} (hv : Valid P) {y : List Int} (hy : NV P y) : ∀ k, k < P.n → 0 ≤ y.getD k 0 ∧ y.getD k 0 ≤ 1000 ∧ (0 < y.getD k 0 → P.n ≤ k + P.n) := fun k hk => by
  have h1 := hy.2 k hk
  have h2 := hv.ord2 k hk
  exact ⟨h1.1, by omega, fun _ => by omega⟩

theorem build113 (br : Nat) (x : List Int) (w : World) : (Instr.build 113 #[(0, .pointer (some ⟨br, 0, none⟩)), (1, .agg (vec x).toArray)]).run Try.prog w = .ok (.agg (Value.pointer (some ⟨br, 0, none⟩) :: vec x).toArray) w := by kernel_rfl
theorem bslice2 (x y : List Int) (w : World) : (Instr.buildSlice 125 2 #[(0, .agg (vec x).toArray), (1, .agg (vec y).toArray)]).run Try.prog w = .ok (.slice (some ⟨w.heap.size, 0, none⟩) 2 2) (w.alloc (.cells (vec x ++ vec y).toArray 82)) := by kernel_rfl
theorem bslice3 (x y z : List Int) (w : World) : (Instr.buildSlice 125 3 #[(0, .agg (vec x).toArray), (1, .agg (vec y).toArray), (2, .agg (vec z).toArray)]).run Try.prog w = .ok (.slice (some ⟨w.heap.size, 0, none⟩) 3 3) (w.alloc (.cells (vec x ++ vec y ++ vec z).toArray 82)) := by kernel_rfl

theorem wpList_store_row {P : Program} {ops : Array Oper} {rest : List Oper} {op : Oper} {a : Act} {w : World} {Q : Exit → Act → World → Prop} (hgd : op.guard = none) (ty : TypeId) (x y : Operand) (ho : op.op = .store ty x y)
    (g : Nat) (t : TypeId) (old c' : Array Value) (hx : a.eval x = .pointer (some ⟨g, 0, none⟩)) (hy : a.eval y = .agg c') (hg : w.heap[g]? = some (.cells old t (0, 0)))
    (hi : (P.info? ty).map (·.size) = some c'.size) (hoo : old.size = c'.size) (h1 : c'.all (·.oneCell') = true)
    (h : wpList P ops Q rest (a.put op.dst undef) (w.setRow g c')) : wpList P ops Q (op :: rest) a w :=
  wpList_plain hgd fun _ hK => by
    unfold Oper.wp execOp
    simp only [ho, hx, hy, Instr.storeAt, Instr.sureAddr, Sem.run_bind, Sem.run_pure, Result.andThen_ok, run_storeVar_row w g t ty old c' hg hi hoo h1]
    exact hK _ _ h

/-- the slice value sv holds the vectors xs -/
def VecsAt (w : World) (sv : Value) (xs : List (List Int)) : Prop := ∃ b cap, sv = .slice (some ⟨b, 0, none⟩) xs.length cap ∧ xs.length ≤ cap ∧ cap ≤ 9223372036854775807 ∧ ∀ i, i < xs.length → w.rangeAt b (i * 12) (vec (xs.getD i []))

theorem vecs2 (w : World) (x y : List Int) : VecsAt (w.alloc (.cells (vec x ++ vec y).toArray 82)) (.slice (some ⟨w.heap.size, 0, none⟩) 2 2) [x, y] := by
  refine ⟨w.heap.size, 2, rfl, by simp, by omega, fun i hi j v hv => ?_⟩
  have hj : j < 12 := by have := (List.getElem?_eq_some_iff.1 hv).1; rwa [length_vec] at this
  rw [cell_of_row _ _ _ _ _ _ (heap_alloc_new w _)]
  simp at hi
  have hi' : i = 0 ∨ i = 1 := by omega
  rcases hi' with rfl | rfl
  · simp [List.getElem?_append, length_vec, hj]
    first | (have h := (List.getElem?_eq_some_iff.1 hv).2; simpa using h) | (simpa using hv)
  · have : ¬ (12 + j < 12) := by omega
    simp [List.getElem?_append, length_vec, this]
    first | (have h := (List.getElem?_eq_some_iff.1 hv).2; simpa using h) | (simpa using hv)
theorem vecs3 (w : World) (x y z : List Int) : VecsAt (w.alloc (.cells (vec x ++ vec y ++ vec z).toArray 82)) (.slice (some ⟨w.heap.size, 0, none⟩) 3 3) [x, y, z] := by
  refine ⟨w.heap.size, 3, rfl, by simp, by omega, fun i hi j v hv => ?_⟩
  have hj : j < 12 := by have := (List.getElem?_eq_some_iff.1 hv).1; rwa [length_vec] at this
  rw [cell_of_row _ _ _ _ _ _ (heap_alloc_new w _)]
  simp at hi
  have hi' : i = 0 ∨ i = 1 ∨ i = 2 := by omega
  rcases hi' with rfl | rfl | rfl
  · have : j < 12 + 12 := by omega
    simp [List.getElem?_append, length_vec, hj]
    first | (have h := (List.getElem?_eq_some_iff.1 hv).2; simpa using h) | (simpa using hv)
  · have h1 : ¬ (12 + j < 12) := by omega
    have h2 : 12 + j < 12 + 12 := by omega
    simp [List.getElem?_append, length_vec, h1, hj]
    first | (have h := (List.getElem?_eq_some_iff.1 hv).2; simpa using h) | (simpa using hv)
  · have h1 : ¬ (24 + j < 12 + 12) := by omega
    have h2 : ¬ (24 + j < 12) := by omega
    have h3 : 24 + j - 12 - 12 = j := by omega
    have h4 : ¬ (24 + j - 12 < 12) := by omega
    simp [List.getElem?_append, length_vec, h2, h3, h4]
    first | (have h := (List.getElem?_eq_some_iff.1 hv).2; simpa using h) | (simpa using hv)

def foldP (P : PcD) (x : List Int) (ys : List (List Int)) (k : Nat) : List Int := foldTo (fun i a => mulP P a (ys.getD i [])) k x

end Go.Proofs
