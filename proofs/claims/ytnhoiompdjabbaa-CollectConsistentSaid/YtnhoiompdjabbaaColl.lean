/- The collector's memory, and the contracts of (*collector).times and (*collector).by. -/
import Derived.Test.YtnhoiompdjabbaaProg
import Derived.Test.YtnhoiompdjabbaaMem
import Derived.Test.YtnhoiompdjabbaaModel
import Derived.Deep.MidRow
import Derived.Deep.WholeRow
import Derived.Lib.SliceRun
namespace Go.Proofs
open Go.RowKit Go.Proofs.Pc

def vec (xs : List Int) : List Value := (List.range 12).map fun k => Value.int .i64 (xs.getD k 0)
theorem length_vec (xs : List Int) : (vec xs).length = 12 := by simp [vec]
theorem getElem?_vec (xs : List Int) {k : Nat} (hk : k < 12) : (vec xs)[k]? = some (.int .i64 (xs.getD k 0)) := by
  simp [vec, List.getElem?_map, List.getElem?_range hk]
theorem vec_set (xs : List Int) {i : Nat} (hi : i < xs.length) (v : Int) : (vec xs).set i (.int .i64 v) = vec (xs.set i v) := by
  apply List.ext_getElem?
  intro k
  rw [List.getElem?_set]
  rcases Nat.lt_or_ge k 12 with hk | hk
  · rw [getElem?_vec _ hk, getElem?_vec _ hk, getD_set]
    by_cases h : i = k
    · subst h; simp [hi, length_vec, hk]
    · simp [h]
  · rw [List.getElem?_eq_none (by rw [length_vec]; exact hk), List.getElem?_eq_none (by rw [length_vec]; exact hk)]
    by_cases h : i = k
    · subst h; simp [length_vec]; omega
    · simp [h]

structure RulesAt (w : World) (br : Nat) (P : PcD) : Prop where
  n : w.cell? ⟨br, 0, none⟩ = some (.int .i64 P.n)
  ord : w.rangeAt br 1 (vec P.orders)
  pow : ∀ i, i < 12 → w.rangeAt br (13 + i * 12) (vec (P.pow i))
  cj : ∀ j, j < 12 → ∀ i, i < 12 → w.rangeAt br (157 + j * 144 + i * 12) (vec (P.cj j i))

def CollAt (w : World) (bc br : Nat) (x : List Int) : Prop := w.heap[bc]? = some (.cells (Value.pointer (some ⟨br, 0, none⟩) :: vec x).toArray 113 (0, 0))

section
variable {w w' : World} {bc br : Nat} {x : List Int} {P : PcD}

theorem rangeAt_keep {b o : Nat} {cs : List Value} (h : w.rangeAt b o cs) (hk : w'.heap[b]? = w.heap[b]?) : w'.rangeAt b o cs := fun j v hv => by
  rw [World.cell?_of_block (a := ⟨b, o + j, none⟩) hk]; exact h j v hv

theorem RulesAt.lt (h : RulesAt w br P) : br < w.heap.size := World.block_lt_of_cell? w _ h.n
theorem RulesAt.block (h : RulesAt w br P) (hk : w'.heap[br]? = w.heap[br]?) : RulesAt w' br P :=
  ⟨(World.cell?_of_block (a := ⟨br, 0, none⟩) hk).trans h.n, rangeAt_keep h.ord hk, fun i hi => rangeAt_keep (h.pow i hi) hk, fun j hj i hi => rangeAt_keep (h.cj j hj i hi) hk⟩
theorem RulesAt.grown {row : Option Nat} (h : RulesAt w br P) (hg : w.grownBy w' row) (hne : some br ≠ row) : RulesAt w' br P := h.block (hg.block br h.lt hne)
theorem RulesAt.below (h : RulesAt w br P) (hb : Below w.heap.size w w') : RulesAt w' br P := h.block (hb.block br h.lt)
theorem RulesAt.ordc (h : RulesAt w br P) {i : Nat} (hi : i < 12) : w.cell? ⟨br, 1 + i, none⟩ = some (.int .i64 (P.ord i)) := h.ord i _ (getElem?_vec _ hi)

theorem CollAt.lt (h : CollAt w bc br x) : bc < w.heap.size := (Array.getElem?_eq_some_iff.1 h).1
theorem CollAt.ptr (h : CollAt w bc br x) : w.cell? ⟨bc, 0, none⟩ = some (.pointer (some ⟨br, 0, none⟩)) := by
  rw [cell_of_row w bc 0 _ _ _ h]; rfl
theorem CollAt.range (h : CollAt w bc br x) : w.rangeAt bc 1 (vec x) := fun j v hv => by
  rw [cell_of_row w bc (1 + j) _ _ _ h]
  simp [Nat.add_comm 1 j, hv]
theorem CollAt.cell (h : CollAt w bc br x) {k : Nat} (hk : k < 12) : w.cell? ⟨bc, 1 + k, none⟩ = some (.int .i64 (x.getD k 0)) := h.range k _ (getElem?_vec _ hk)
theorem CollAt.frozen (h : CollAt w bc br x) (k : Nat) : w.frozen? ⟨bc, k, none⟩ = false := frozen_of_row w bc k _ _ h
theorem CollAt.there (h : CollAt w bc br x) : w.there bc 1 12 := fun j hj => ⟨by rw [h.cell hj]; rfl, h.frozen _⟩
theorem CollAt.block (h : CollAt w bc br x) (hk : w'.heap[bc]? = w.heap[bc]?) : CollAt w' bc br x := hk.trans h
theorem CollAt.grown {row : Option Nat} (h : CollAt w bc br x) (hg : w.grownBy w' row) (hne : some bc ≠ row) : CollAt w' bc br x := h.block (hg.block bc h.lt hne)
theorem CollAt.below (h : CollAt w bc br x) (hb : Below w.heap.size w w') : CollAt w' bc br x := h.block (hb.block bc h.lt)
theorem CollAt.set {i : Nat} (h : CollAt w bc br x) (hi : i < x.length) (v : Int) : CollAt (w.setCell ⟨bc, 1 + i, none⟩ (.int .i64 v)) bc br (x.set i v) := by
  unfold CollAt
  rw [← vec_set x hi]
  have h' : w.heap[bc]? = some (.cells (Value.pointer (some ⟨br, 0, none⟩) :: vec x).toArray 113 (0, 0)) := h
  simp [World.setCell, Array.getElem?_modify, h', Nat.add_comm 1 i]
end

/-- frames: extra words -/
theorem only_alloc {a w : World} {row : Option Nat} (h : a.grownBy w row) (o : Obj) : a.grownBy (w.alloc o) row :=
  ⟨h.os, h.tape, h.output, Nat.le_trans h.size (by simp), fun i hi hne => (Below.heap_alloc w o i (Nat.lt_of_lt_of_le hi h.size)).trans (h.block i hi hne)⟩
theorem only_drewN {a w : World} {row : Option Nat} (h : a.grownBy w row) (n : Nat) : a.grownBy (w.drewN n) row := ⟨h.os, h.tape, h.output, h.size, h.block⟩
theorem only_drew {a w : World} {row : Option Nat} (h : a.grownBy w row) : a.grownBy w.drew row := ⟨h.os, h.tape, h.output, h.size, h.block⟩
theorem only_setCell {a w : World} {g : Nat} (h : a.grownBy w (some g)) {p : Addr} (hp : p.block = g ∨ a.heap.size ≤ p.block) (u : Value) : a.grownBy (w.setCell p u) (some g) :=
  ⟨h.os, h.tape, h.output, by simpa [World.setCell] using h.size, fun i hi hne => (Below.heap_setCell w p u i (by
    rintro rfl
    rcases hp with hp | hp
    · exact hne (by rw [hp])
    · omega)).trans (h.block i hi hne)⟩
theorem only_of_below {a w : World} (h : Below a.heap.size a w) (row : Option Nat) : a.grownBy w row := ⟨h.os, h.tape, h.output, h.size, fun i hi _ => h.block i hi⟩
theorem only_trans {a b c : World} {row : Option Nat} (h : a.grownBy b row) (k : b.grownBy c row) : a.grownBy c row :=
  ⟨k.os.trans h.os, k.tape.trans h.tape, k.output.trans h.output, Nat.le_trans h.size k.size, fun i hi hne => (k.block i (Nat.lt_of_lt_of_le hi h.size) hne).trans (h.block i hi hne)⟩

theorem oneCell_vec (xs : List Int) : (vec xs).toArray.all (·.oneCell') = true := all_oneCell_toArray (by intro v hv; simp [vec] at hv; obtain ⟨k, _, rfl⟩ := hv; rfl)
theorem size_vec (xs : List Int) : (vec xs).toArray.size = 12 := by simp [length_vec]
theorem info82 : (Try.prog.info? 82).map (·.size) = some 12 := by kernel_rfl

/-- A whole vector is stored into the block that was just made. -/
theorem store_vec_new (w : World) (x : List Int) : Sem.run Try.prog (storeCells ⟨w.heap.size, 0, none⟩ (vec x)) (w.alloc (.cells #[.int .i64 0, .int .i64 0, .int .i64 0, .int .i64 0, .int .i64 0, .int .i64 0, .int .i64 0, .int .i64 0, .int .i64 0, .int .i64 0, .int .i64 0, .int .i64 0] 82)) =
    .ok () (w.alloc (.cells (vec x).toArray 82)) :=
  run_storeCells_new (P := Try.prog) w 82 _ (vec x).toArray (by rw [size_vec]; exact info82) (by rw [size_vec]; rfl) (oneCell_vec x)

/-- What a call of times, by does: the collector's vector becomes y. -/
def Turned (w : World) (bc br : Nat) (y : List Int) (e : Ending) (w' : World) : Prop := e = .returned (.tuple #[]) ∧ CollAt w' bc br y ∧ w.grownBy w' (some bc)

def TimesOk (P : PcD) (d : Nat) : Prop := ∀ (w : World) (bc br : Nat) (x : List Int) (i : Nat), CollAt w bc br x → RulesAt w br P → bc ≠ br → NV P x → i < P.n → P.n ≤ i + d →
    Calls Try.prog 79 #[.pointer (some ⟨bc, 0, none⟩), .int .i64 i] w (Turned w bc br (timesF P d i x))
def ByOk (P : PcD) (d : Nat) : Prop := ∀ (w : World) (bc br : Nat) (x y : List Int), CollAt w bc br x → RulesAt w br P → bc ≠ br → NV P x → (∀ k, k < P.n → 0 ≤ y.getD k 0 ∧ y.getD k 0 ≤ 1000 ∧ (0 < y.getD k 0 → P.n ≤ k + d)) →
    Calls Try.prog 80 #[.pointer (some ⟨bc, 0, none⟩), .agg (vec y).toArray] w (Turned w bc br (byF (timesF P d) P.n y x))
end Go.Proofs
