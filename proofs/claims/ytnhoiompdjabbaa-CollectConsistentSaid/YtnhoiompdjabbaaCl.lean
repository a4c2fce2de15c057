/- Clone, list, the order of a live group. -/
import Derived.Test.YtnhoiompdjabbaaDead
import Derived.Ground.NamesProg
import Derived.Ground.Names2Prog
import Derived.Shelf.Slices.Clone
import Derived.Lib.OwnBridge
namespace Go.Proofs
open Go.Shelf
def Try.laysClone_ren : Go.Shelf.Ren := ⟨fun | 15 => 84 | n => n, fun | 22 => 22 | 3 => 3 | 4 => 4 | n => n, fun | n => n⟩
theorem Try.laysClone : Go.Proofs.Lays2.n15 Try.prog Try.laysClone_ren := {
  mixed := by kernel_rfl
  f15 := Try.func84.trans (congrArg some (by kernel_rfl))
  t3 := Try.underlying3
  a3 := Try.isAgg3
  z3 := Try.sizeOf3
  v3 := Try.zeroValue3
  t4 := Try.underlying4
  a4 := Try.isAgg4
  z4 := Try.sizeOf4
  v4 := Try.zeroValue4
  t22 := Try.underlying22
  a22 := Try.isAgg22
  z22 := Try.sizeOf22
  v22 := Try.zeroValue22
  i3 := by kernel_rfl }
end Go.Proofs
namespace Go.Proofs
open Go.RowKit Go.Proofs.Pc Go.Shelf

theorem intsAt_of_owns {w : World} {base : Nat} {v : Value} {n : Nat} {xs : List Int} (h : w.ownsRow base 3 1 v n (xs.map (Value.int .i64))) (hv : v ≠ .slice none 0 0) (hf : Fits xs) : IntsAt w v xs := by
  obtain ⟨g, cap, rfl, _, _, hn, hm, hl, hH⟩ := Lib.holds_of_ownsRow h hv
  refine ⟨⟨_, n, cap, rfl, by simp [ints, hl], hn, hm, fun _ => ⟨g, 0, rfl, fun j u hu => ?_⟩⟩, hf⟩
  have hj : j < xs.length := by
    rcases Nat.lt_or_ge j xs.length with h | h
    · exact h
    · rw [List.getElem?_eq_none (by simpa [ints] using h)] at hu; cases hu
  have := (hH j (by simpa using hj)).1
  rw [this]
  simp [ints, hj] at hu
  simp [hj, hu]
theorem intsAt_nil {w : World} : IntsAt w (.slice none 0 0) [] := ⟨⟨none, 0, 0, rfl, rfl, Nat.le_refl _, by simp, fun h => absurd h (by simp)⟩, fun x hx => by cases hx⟩

theorem clone_any (w : World) (v : Value) (xs : List Int) (h : IntsAt w v xs) (hl : xs.length ≤ 1000) : Calls Try.prog 84 #[v] w fun e w' => ∃ u, e = .returned u ∧ IntsAt w' u xs ∧ Below w.heap.size w w' := by
  obtain ⟨A, cap, rfl, hcap, hmax, hr⟩ := h.open_
  rcases Nat.eq_zero_or_pos xs.length with h0 | h0
  · obtain rfl : xs = [] := List.length_eq_zero_iff.1 h0
    cases A with
    | none =>
      exact (Any.slices_Clone_int_nil Try.laysClone _ _ w).mono fun e w' ⟨he, hw⟩ => by subst hw; exact ⟨_, he, intsAt_nil, Below.refl _ _⟩
    | some a =>
      exact (Any.slices_Clone_int_zero Try.laysClone a cap w).mono fun e w' ⟨u, he, ho, hn, hb⟩ => ⟨u, he, intsAt_of_owns ho hn h.2, hb⟩
  · obtain ⟨b, off, rfl, hc⟩ := hr h0
    exact (Any.slices_Clone_int Try.laysClone b off xs.length cap xs w (Nat.le_refl _) (by omega) hc).mono fun e w' ⟨u, he, ho, hn, hb⟩ => ⟨u, he, intsAt_of_owns (by rwa [List.take_of_length_le (Nat.le_refl _)] at ho) hn h.2, hb⟩
end Go.Proofs
