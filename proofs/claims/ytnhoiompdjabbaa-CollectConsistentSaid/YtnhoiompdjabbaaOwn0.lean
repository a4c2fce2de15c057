/- make([][]int, n) -/
import Derived.Test.YtnhoiompdjabbaaMul
import Derived.Laws.MakeOwn
namespace Go.Proofs
open Go.RowKit Go.Proofs.Pc Go.Shelf
theorem info22 : (Try.prog.info? 22).map (fun i => (i.zero, i.size, i.bytes)) = some (some (.slice none 0 0), 1, 24) := by kernel_rfl
theorem made22 (n : Nat) : madeCells (Value.slice none 0 0).cells n = Array.replicate n (.slice none 0 0) := by
  apply Array.ext_getElem?
  intro k
  simp only [madeCells, Value.cells, Array.getElem?_map, Array.getElem?_range, Array.getElem?_replicate]
  by_cases h : k < n
  · simp [h, Nat.mod_one]
  · simp [h]
theorem make23 (w : World) (n : Nat) (hn : n ≤ 1000) : (Instr.makeSlice 23 (.int .i64 (n : Int)) (.int .i64 (n : Int))).run Try.prog w =
    .ok (.slice (some ⟨w.heap.size, 0, none⟩) n n) (w.alloc (.cells (Array.replicate n (.slice none 0 0)) 22)) := by
  have h := info22
  cases hq : Try.prog.info? 22 with
  | none => simp [hq] at h
  | some i =>
    simp [hq] at h
    obtain ⟨hz, hs, hb⟩ := h
    have := run_makeSlice (P := Try.prog) w 23 22 i (.slice none 0 0) Try.underlying23 hq hz .i64 .i64 n n (by omega) (Int.le_refl _) (by rw [hs]; simp; omega) (by rw [hb]; omega) (by omega)
    rw [this, hs, Int.toNat_natCast, Nat.mul_one, made22]

/-- All blocks of cells of these types are as they were. -/
def Agree (T : List Nat) (w w' : World) : Prop := ∀ (k : Nat) (C : Array Value) (t : TypeId) (fr : Nat × Nat), t ∈ T → w.heap[k]? = some (Obj.cells C t fr) → w'.heap[k]? = some (Obj.cells C t fr)
section
variable {T : List Nat} {w w' w'' : World}
theorem Agree.refl : Agree T w w := fun _ _ _ _ _ h => h
theorem Agree.trans (h : Agree T w w') (k : Agree T w' w'') : Agree T w w'' := fun i C t fr ht hi => k i C t fr ht (h i C t fr ht hi)
theorem Agree.below (h : Below w.heap.size w w') : Agree T w w' := fun k _C _t _fr _ hk => (h.block k (Array.getElem?_eq_some_iff.1 hk).1).trans hk
theorem Agree.grown {row : Option Nat} (h : w.grownBy w' row) (hr : ∀ r, row = some r → ∃ C t fr, w.heap[r]? = some (Obj.cells C t fr) ∧ t ∉ T) : Agree T w w' := fun k C t fr ht hk => by
  refine (h.block k (Array.getElem?_eq_some_iff.1 hk).1 (fun e => ?_)).trans hk
  obtain ⟨C', t', fr', h1, h2⟩ := hr k e.symm
  rw [hk] at h1
  cases h1
  exact h2 ht
theorem Agree.setCell {b j : Nat} {v : Value} {C : Array Value} {t : TypeId} {fr : Nat × Nat} (h : w.heap[b]? = some (Obj.cells C t fr)) (ht : t ∉ T) : Agree T w (w.setCell ⟨b, j, none⟩ v) := fun k C' t' fr' ht' hk => by
  rw [Below.heap_setCell]
  · exact hk
  · intro e
    have : k = b := e
    subst this
    rw [hk] at h
    cases h
    exact ht ht'
theorem Agree.mono {T' : List Nat} (h : Agree T w w') (hs : ∀ t ∈ T', t ∈ T) : Agree T' w w' := fun k C t fr ht hk => h k C t fr (hs t ht) hk
end

/-- u reads as xs by cells of blocks of numbers alone. -/
def IntsT (w : World) (u : Value) (xs : List Int) : Prop := ∀ w' : World, Agree [3] w w' → IntsAt w' u xs
theorem IntsT.at_ {w : World} {u : Value} {xs : List Int} (h : IntsT w u xs) : IntsAt w u xs := h w Agree.refl
theorem IntsT.keep {w w1 : World} {u : Value} {xs : List Int} (h : IntsT w u xs) (hk : Agree [3] w w1) : IntsT w1 u xs := fun w' hw => h w' (hk.trans hw)
theorem intsT_of_owns {w : World} {base : Nat} {v : Value} {n : Nat} {xs : List Int} (h : w.ownsRow base 3 1 v n (xs.map (Value.int .i64))) (hv : v ≠ .slice none 0 0) (hf : Fits xs) : IntsT w v xs := by
  obtain ⟨hl, h⟩ := h
  rcases h with ⟨rfl, -⟩ | ⟨g, cap, cur, rfl, hbg, hg, hnc, hcm, hcs, htake⟩
  · exact absurd rfl hv
  · intro w' hw
    have hg' := hw g _ _ _ (by simp) hg
    refine ⟨⟨_, n, cap, rfl, by simpa [ints] using hl.symm, hnc, hcm, fun _ => ⟨g, 0, rfl, fun j u hu => ?_⟩⟩, hf⟩
    rw [cell_of_row _ _ _ _ _ _ hg', Nat.zero_add]
    have hj : j < (ints xs).length := (List.getElem?_eq_some_iff.1 hu).1
    have : (cur.toList.take (n * 1))[j]? = some u := by rw [htake]; exact hu
    rw [List.getElem?_take] at this
    split at this
    · simpa using this
    · cases this
theorem intsT_nil {w : World} : IntsT w (.slice none 0 0) [] := fun _ _ => intsAt_nil

theorem clone_T (w : World) (v : Value) (xs : List Int) (h : IntsAt w v xs) (hl : xs.length ≤ 1000) : Calls Try.prog 84 #[v] w fun e w' => ∃ u, e = .returned u ∧ IntsT w' u xs ∧ Below w.heap.size w w' := by
  obtain ⟨A, cap, rfl, hcap, hmax, hr⟩ := h.open_
  rcases Nat.eq_zero_or_pos xs.length with h0 | h0
  · obtain rfl : xs = [] := List.length_eq_zero_iff.1 h0
    cases A with
    | none =>
      exact (Any.slices_Clone_int_nil Try.laysClone _ _ w).mono fun e w' ⟨he, hw⟩ => by subst hw; exact ⟨_, he, intsT_nil, Below.refl _ _⟩
    | some a =>
      exact (Any.slices_Clone_int_zero Try.laysClone a cap w).mono fun e w' ⟨u, he, ho, hn, hb⟩ => ⟨u, he, intsT_of_owns ho hn h.2, hb⟩
  · obtain ⟨b, off, rfl, hc⟩ := hr h0
    exact (Any.slices_Clone_int Try.laysClone b off xs.length cap xs w (Nat.le_refl _) (by omega) hc).mono fun e w' ⟨u, he, ho, hn, hb⟩ => ⟨u, he, intsT_of_owns (by rwa [List.take_of_length_le (Nat.le_refl _)] at ho) hn h.2, hb⟩
end Go.Proofs
