/- The state of the procedure in memory: a box with three matrices; their rows lie in blocks of their own; (smith.rows).add; slices.Grow and slices.Concat at lists of rows. -/
import Derived.Test.YthfachbkcmifbaaGreatGrCS1
import Derived.Test.YthfachbkcmifbaaGreatGrCS2
import Derived.StillTailTactics
import Derived.RegionTactic
import Derived.BigRegion
import Derived.Outline
namespace Go.Proofs
open Go.RowKit Go.Shelf Go.Proofs.Sm
/-- block b holds the numbers x (and may be longer) -/
def XsAt (w : World) (b : Nat) (x : List Int) : Prop := ∃ C : Array Value, w.heap[b]? = some (.cells C 3 (0, 0)) ∧ x.length ≤ C.size ∧ ∀ k, k < x.length → C[k]? = some (.int .i64 (x.getD k 0))
section
variable {w w' : World} {b k : Nat} {x y : List Int}
theorem XsAt.lt (h : XsAt w b x) : b < w.heap.size := by obtain ⟨C, hC, -⟩ := h; exact (Array.getElem?_eq_some_iff.1 hC).1
theorem XsAt.keep (h : XsAt w b x) (hk : w'.heap[b]? = w.heap[b]?) : XsAt w' b x := by
  obtain ⟨C, hC, h2, h3⟩ := h
  exact ⟨C, hk.trans hC, h2, h3⟩
theorem XsAt.below (h : XsAt w b x) (hb : Below w.heap.size w w') : XsAt w' b x := h.keep (hb.block _ h.lt)
theorem XsAt.grown {row : Option Nat} (h : XsAt w b x) (hg : w.grownBy w' row) (hr : row ≠ some b) : XsAt w' b x := h.keep (hg.block _ h.lt (Ne.symm hr))
theorem XsAt.cell (h : XsAt w b x) (hk : k < x.length) : w.cell? ⟨b, k, none⟩ = some (.int .i64 (x.getD k 0)) := by
  obtain ⟨C, hC, -, h3⟩ := h
  rw [cell_of_row _ _ _ _ _ _ hC]; exact h3 k hk
theorem XsAt.frozen (h : XsAt w b x) (k : Nat) : w.frozen? ⟨b, k, none⟩ = false := by
  obtain ⟨C, hC, -⟩ := h
  simp [World.frozen?, hC]
theorem XsAt.set (h : XsAt w b x) (hk : k < x.length) (v : Int) : XsAt (w.setCell ⟨b, k, none⟩ (.int .i64 v)) b (x.set k v) := by
  obtain ⟨C, hC, h2, h3⟩ := h
  refine ⟨C.setIfInBounds k (.int .i64 v), by simp [World.setCell, Array.getElem?_modify, hC], by simpa using h2, fun j hj => ?_⟩
  have hj' : j < x.length := by simpa using hj
  rw [getD_set_]
  by_cases e : k = j
  · subst e
    rw [if_pos ⟨rfl, hk⟩]
    have : k < C.size := by omega
    simp [this]
  · rw [if_neg (fun hh => e hh.1), Array.getElem?_setIfInBounds_ne e]
    exact h3 j hj'
theorem XsAt.ints (h : XsAt w b x) {n cap : Nat} (hn : x.length = n) (hc : n ≤ cap) (hm : cap ≤ 9223372036854775807) (hf : Fits x) : IntsAt w (.slice (some ⟨b, 0, none⟩) n cap) x := by
  refine ⟨⟨_, n, cap, rfl, by simp [_root_.Go.Proofs.ints, hn], hc, by simpa [maxLen] using hm, fun _ => ⟨b, 0, rfl, fun j v hv => ?_⟩⟩, hf⟩
  have hj : j < x.length := by have := (List.getElem?_eq_some_iff.1 hv).1; simpa [_root_.Go.Proofs.ints] using this
  rw [Nat.zero_add, h.cell hj, ← hv]
  simp [_root_.Go.Proofs.ints, hj, List.getD_eq_getElem?_getD]
end
/-- the k-th of the matrices a, u, v -/
def Sm.S.mat (s : S) : Nat → Mat
  | 0 => s.a
  | 1 => s.u
  | _ => s.v
def Sm.S.setMat (s : S) : Nat → Mat → S
  | 0, m => { s with a := m }
  | 1, m => { s with u := m }
  | _, m => { s with v := m }
theorem mat_setMat (s : S) (m : Mat) {k j : Nat} (hk : k < 3) (hj : j < 3) : (s.setMat k m).mat j = if k = j then m else s.mat j := by
  obtain rfl | rfl | rfl : k = 0 ∨ k = 1 ∨ k = 2 := by omega
  all_goals
    obtain rfl | rfl | rfl : j = 0 ∨ j = 1 ∨ j = 2 := by omega
    all_goals rfl
theorem setMat_setMat (s : S) (m m' : Mat) (k : Nat) : (s.setMat k m).setMat k m' = s.setMat k m' := by
  rcases k with _ | _ | k <;> rfl
theorem setMat_self (s : S) (k : Nat) : s.setMat k (s.mat k) = s := by
  rcases k with _ | _ | k <;> rfl
theorem mat_set_self (s : S) (m : Mat) (k : Nat) : (s.setMat k m).mat k = m := by
  rcases k with _ | _ | k <;> rfl
/-- row i of a matrix with entry j written -/
def put (m : Mat) (i j : Nat) (z : Int) : Mat := m.set i ((m.getD i []).set j z)
theorem length_put (m : Mat) (i j : Nat) (z : Int) : (put m i j z).length = m.length := by simp [put]
theorem row_put (m : Mat) (i j p : Nat) (z : Int) : (put m i j z).getD p [] = if i = p ∧ i < m.length then (m.getD i []).set j z else m.getD p [] := getD_set_ _ _ _ _ _
theorem rowlen_put (m : Mat) (i j p : Nat) (z : Int) : ((put m i j z).getD p []).length = (m.getD p []).length := by
  rw [row_put]
  split
  · rename_i h; rw [List.length_set, h.1]
  · rfl
structure WkM (T b base : Nat) (w : World) (s : S) (x : Value) (vs : Nat → Value) (bl cs : Nat → Nat → Nat) : Prop where
  ty : T ≠ 3 ∧ T ≠ 25
  bb : base ≤ b
  box : w.heap[b]? = some (.cells #[vs 0, vs 1, vs 2, x] T (0, 0))
  out : ∀ k, k < 3 → w.ownsRow base 25 1 (vs k) (s.mat k).length ((List.range (s.mat k).length).map fun i => .slice (some ⟨bl k i, 0, none⟩) ((s.mat k).getD i []).length (cs k i))
  row : ∀ k i, k < 3 → i < (s.mat k).length → base ≤ bl k i ∧ XsAt w (bl k i) ((s.mat k).getD i []) ∧ ((s.mat k).getD i []).length ≤ cs k i ∧ cs k i ≤ 9223372036854775807
  inj : ∀ k i k' i', k < 3 → k' < 3 → i < (s.mat k).length → i' < (s.mat k').length → bl k i = bl k' i' → k = k' ∧ i = i'
  sep : ∀ k k', k < 3 → k' < 3 → k ≠ k' → ∀ g, (vs k).ownBlock = some g → (vs k').ownBlock ≠ some g
def Wk (T b base : Nat) (w : World) (s : S) (x : Value) : Prop := ∃ vs bl cs, WkM T b base w s x vs bl cs
section
variable {T b base : Nat} {w w' : World} {s : S} {x : Value} {vs : Nat → Value} {bl cs : Nat → Nat → Nat}
theorem WkM.keep (h : WkM T b base w s x vs bl cs) (hk : ∀ k, base ≤ k → k < w.heap.size → w'.heap[k]? = w.heap[k]?) : WkM T b base w' s x vs bl cs := by
  refine ⟨h.ty, h.bb, (hk b h.bb (Array.getElem?_eq_some_iff.1 h.box).1).trans h.box, fun k hk3 => owns_keep (h.out k hk3) fun r hr => ?_, fun k i hk3 hi => ?_, h.inj, h.sep⟩
  · obtain ⟨a, C, hC⟩ := owns_block (h.out k hk3) r hr
    exact hk r a (Array.getElem?_eq_some_iff.1 hC).1
  · obtain ⟨a, b', c⟩ := h.row k i hk3 hi
    exact ⟨a, b'.keep (hk _ a b'.lt), c⟩
theorem WkM.below (h : WkM T b base w s x vs bl cs) (hb : Below w.heap.size w w') : WkM T b base w' s x vs bl cs := h.keep fun k _ hk => hb.block k hk
theorem Wk.below (h : Wk T b base w s x) (hb : Below w.heap.size w w') : Wk T b base w' s x := let ⟨vs, bl, cs, h⟩ := h; ⟨vs, bl, cs, h.below hb⟩
theorem WkM.drewN (h : WkM T b base w s x vs bl cs) (n : Nat) : WkM T b base (w.drewN n) s x vs bl cs := h.keep fun _ _ _ => rfl
theorem Wk.drewN (h : Wk T b base w s x) (n : Nat) : Wk T b base (w.drewN n) s x := let ⟨vs, bl, cs, h⟩ := h; ⟨vs, bl, cs, h.drewN n⟩
theorem WkM.lt (h : WkM T b base w s x vs bl cs) : b < w.heap.size := (Array.getElem?_eq_some_iff.1 h.box).1
theorem WkM.cells (h : WkM T b base w s x vs bl cs) : w.cell? ⟨b, 0, none⟩ = some (vs 0) ∧ w.cell? ⟨b, 1, none⟩ = some (vs 1) ∧ w.cell? ⟨b, 2, none⟩ = some (vs 2) ∧ w.cell? ⟨b, 3, none⟩ = some x ∧ ∀ k, w.frozen? ⟨b, k, none⟩ = false :=
  ⟨by rw [cell_of_row _ _ _ _ _ _ h.box]; rfl, by rw [cell_of_row _ _ _ _ _ _ h.box]; rfl, by rw [cell_of_row _ _ _ _ _ _ h.box]; rfl, by rw [cell_of_row _ _ _ _ _ _ h.box]; rfl, fun k => by simp [World.frozen?, h.box]⟩
/-- the matrix k as a value -/
theorem WkM.form (h : WkM T b base w s x vs bl cs) {k : Nat} (hk : k < 3) : ∃ A c, vs k = .slice A (s.mat k).length c ∧ (s.mat k).length ≤ c ∧ c ≤ 9223372036854775807 := by
  rcases (h.out k hk).2 with ⟨e, e2⟩ | ⟨g, cap, cur, e, -, -, h1, h2, -⟩
  · exact ⟨none, 0, by rw [e, e2], by omega, by omega⟩
  · exact ⟨_, cap, e, h1, by simpa [maxLen] using h2⟩
/-- reading a row -/
theorem WkM.row_at (h : WkM T b base w s x vs bl cs) {k i : Nat} (hk : k < 3) (hi : i < (s.mat k).length) : ∃ g c, vs k = .slice (some ⟨g, 0, none⟩) (s.mat k).length c ∧ w.cell? ⟨g, i, none⟩ = some (.slice (some ⟨bl k i, 0, none⟩) ((s.mat k).getD i []).length (cs k i)) ∧ w.frozen? ⟨g, i, none⟩ = false ∧ base ≤ g := by
  obtain ⟨hl, ho⟩ := h.out k hk
  rcases ho with ⟨-, h0⟩ | ⟨g, cap, cur, e, hb, hC, h1, hm, hs, ht⟩
  · omega
  · refine ⟨g, cap, e, ?_, by simp [World.frozen?, hC], hb⟩
    rw [cell_of_row _ _ _ _ _ _ hC]
    have h2 : (cur.toList.take ((s.mat k).length * 1))[i]? = ((List.range (s.mat k).length).map fun i => Value.slice (some ⟨bl k i, 0, none⟩) ((s.mat k).getD i []).length (cs k i))[i]? := by rw [ht]
    rw [List.getElem?_take, if_pos (by omega)] at h2
    simpa [hi] using h2
theorem WkM.ent_at (h : WkM T b base w s x vs bl cs) {k i j : Nat} (hk : k < 3) (hi : i < (s.mat k).length) (hj : j < ((s.mat k).getD i []).length) : w.cell? ⟨bl k i, j, none⟩ = some (.int .i64 (ent (s.mat k) i j)) ∧ w.frozen? ⟨bl k i, j, none⟩ = false :=
  let ⟨_, hX, _⟩ := h.row k i hk hi; ⟨hX.cell hj, hX.frozen j⟩
theorem WkM.row_ty (h : WkM T b base w s x vs bl cs) {k i : Nat} (hk : k < 3) (hi : i < (s.mat k).length) : ∃ C, w.heap[bl k i]? = some (.cells C 3 (0, 0)) := by
  obtain ⟨-, ⟨C, hC, -⟩, -⟩ := h.row k i hk hi
  exact ⟨C, hC⟩
/-- writing an entry -/
theorem WkM.set (h : WkM T b base w s x vs bl cs) {k i j : Nat} (hk : k < 3) (hi : i < (s.mat k).length) (hj : j < ((s.mat k).getD i []).length) (z : Int) : WkM T b base (w.setCell ⟨bl k i, j, none⟩ (.int .i64 z)) (s.setMat k (put (s.mat k) i j z)) x vs bl cs := by
  have hne : ∀ p, p ≠ bl k i → (w.setCell ⟨bl k i, j, none⟩ (.int .i64 z)).heap[p]? = w.heap[p]? := fun p hp => Below.heap_setCell w ⟨bl k i, j, none⟩ _ p hp
  obtain ⟨C, hC⟩ := h.row_ty hk hi
  have hml : ∀ k', k' < 3 → ((s.setMat k (put (s.mat k) i j z)).mat k').length = (s.mat k').length := fun k' hk' => by
    rw [mat_setMat s _ hk hk']
    split
    · rename_i e; subst e; exact length_put _ _ _ _
    · rfl
  have hmr : ∀ k' p, k' < 3 → (((s.setMat k (put (s.mat k) i j z)).mat k').getD p []).length = ((s.mat k').getD p []).length := fun k' p hk' => by
    rw [mat_setMat s _ hk hk']
    split
    · rename_i e; subst e; exact rowlen_put _ _ _ _ _
    · rfl
  refine ⟨h.ty, h.bb, (hne b fun e => ?_).trans h.box, fun k' hk' => ?_, fun k' p hk' hp => ?_, fun k1 i1 k2 i2 h1 h2 h3 h4 => h.inj k1 i1 k2 i2 h1 h2 (by rw [hml k1 h1] at h3; exact h3) (by rw [hml k2 h2] at h4; exact h4), h.sep⟩
  · rw [← e, h.box] at hC
    injection hC with h5
    injection h5 with _ h6 _
    exact h.ty.1 h6
  · simp only [hml k' hk', hmr k' _ hk']
    refine owns_keep (h.out k' hk') fun r hr => hne r fun e => ?_
    obtain ⟨-, C', hC'⟩ := owns_block (h.out k' hk') r hr
    rw [e, hC] at hC'
    injection hC' with h5
    injection h5 with _ h6 _
    exact absurd h6 (by decide)
  · rw [hml k' hk'] at hp
    obtain ⟨a, b', d⟩ := h.row k' p hk' hp
    rw [hmr k' p hk']
    refine ⟨a, ?_, d⟩
    by_cases e : k = k' ∧ i = p
    · obtain ⟨rfl, rfl⟩ := e
      rw [mat_set_self, row_put, if_pos ⟨rfl, hi⟩]
      exact b'.set hj z
    · have e1 : ((s.setMat k (put (s.mat k) i j z)).mat k').getD p [] = (s.mat k').getD p [] := by
        rw [mat_setMat s _ hk hk']
        split
        · rename_i e2; subst e2; rw [row_put, if_neg (fun hh => e ⟨rfl, hh.1⟩)]
        · rfl
      rw [e1]
      exact b'.keep (hne _ fun e2 => by
        obtain ⟨q1, q2⟩ := h.inj k' p k i hk' hk hp hi e2
        exact e ⟨q1.symm, q2.symm⟩)
/-- writing the fourth cell of the box -/
theorem WkM.set3 (h : WkM T b base w s x vs bl cs) (y : Value) : WkM T b base (w.setCell ⟨b, 3, none⟩ y) s y vs bl cs := by
  have hne : ∀ p, p ≠ b → (w.setCell ⟨b, 3, none⟩ y).heap[p]? = w.heap[p]? := fun p hp => Below.heap_setCell w ⟨b, 3, none⟩ _ p hp
  refine ⟨h.ty, h.bb, by simp [World.setCell, Array.getElem?_modify, h.box], fun k hk => owns_keep (h.out k hk) fun r hr => hne r fun e => ?_, fun k i hk hi => ?_, h.inj, h.sep⟩
  · obtain ⟨-, C, hC⟩ := owns_block (h.out k hk) r hr
    rw [e, h.box] at hC
    injection hC with h5
    injection h5 with _ h6 _
    exact h.ty.2 h6
  · obtain ⟨a, b', d⟩ := h.row k i hk hi
    refine ⟨a, b'.keep (hne _ fun e => ?_), d⟩
    obtain ⟨C, hC⟩ := h.row_ty hk hi
    rw [e, h.box] at hC
    injection hC with h5
    injection h5 with _ h6 _
    exact h.ty.1 h6
/-- only the matrices are read of s -/
theorem WkM.of (h : WkM T b base w s x vs bl cs) {s' : S} (ha : s'.a = s.a) (hu : s'.u = s.u) (hv : s'.v = s.v) : WkM T b base w s' x vs bl cs := by
  have e : ∀ k, s'.mat k = s.mat k := fun k => by rcases k with _ | _ | k <;> assumption
  exact ⟨h.ty, h.bb, h.box, fun k hk => by rw [e k]; exact h.out k hk, fun k i hk hi => by rw [e k] at hi ⊢; exact h.row k i hk hi, fun k i k' i' h1 h2 h3 h4 => h.inj k i k' i' h1 h2 (by rw [← e k]; exact h3) (by rw [← e k']; exact h4), h.sep⟩
/-- an element of an owned row of values is written -/
theorem owns_set {e n : Nat} {v : Value} {xs : List Value} (h : w.ownsRow base e 1 v n xs) {g i : Nat} (hg : v.ownBlock = some g) (y : Value) : (w.setCell ⟨g, i, none⟩ y).ownsRow base e 1 v n (xs.set i y) := by
  obtain ⟨hl, h⟩ := h
  rcases h with ⟨rfl, -⟩ | ⟨g', cap, cur, rfl, hb, hc, hn, hm, hs, ht⟩
  · cases hg
  · obtain rfl : g' = g := Option.some.inj hg
    refine ⟨by simpa using hl, .inr ⟨g', cap, cur.setIfInBounds i y, by simp, hb, by simp [World.setCell, Array.getElem?_modify, hc], by simpa using hn, hm, by simpa using hs, ?_⟩⟩
    rw [Array.toList_setIfInBounds, List.take_set, ht]
/-- two rows change places -/
theorem WkM.swap (h : WkM T b base w s x vs bl cs) {k i j g : Nat} (hk : k < 3) (hi : i < (s.mat k).length) (hj : j < (s.mat k).length) (hg : (vs k).ownBlock = some g) :
    WkM T b base ((w.setCell ⟨g, i, none⟩ (.slice (some ⟨bl k j, 0, none⟩) ((s.mat k).getD j []).length (cs k j))).setCell ⟨g, j, none⟩ (.slice (some ⟨bl k i, 0, none⟩) ((s.mat k).getD i []).length (cs k i))) (s.setMat k (swR (s.mat k) i j)) x vs
      (fun k' p => if k' = k then bl k (sw i j p) else bl k' p) (fun k' p => if k' = k then cs k (sw i j p) else cs k' p) := by
  obtain ⟨hbg, Cg, hCg⟩ := owns_block (h.out k hk) g hg
  have hne : ∀ p, p ≠ g → ((w.setCell ⟨g, i, none⟩ (.slice (some ⟨bl k j, 0, none⟩) ((s.mat k).getD j []).length (cs k j))).setCell ⟨g, j, none⟩ (.slice (some ⟨bl k i, 0, none⟩) ((s.mat k).getD i []).length (cs k i))).heap[p]? = w.heap[p]? := fun p hp =>
    (Below.heap_setCell _ ⟨g, j, none⟩ _ p hp).trans (Below.heap_setCell w ⟨g, i, none⟩ _ p hp)
  have hlen : (swR (s.mat k) i j).length = (s.mat k).length := by simp [swR]
  have hrow : ∀ p, (swR (s.mat k) i j).getD p [] = (s.mat k).getD (sw i j p) [] := fun p => by
    unfold swR sw
    rw [getD_set_, getD_set_, List.length_set]
    by_cases e : j = p
    · subst e
      rw [if_pos ⟨rfl, hj⟩]
      by_cases e2 : j = i
      · rw [if_pos e2, e2]
      · rw [if_neg e2, if_pos rfl]
    · rw [if_neg (fun hh => e hh.1)]
      by_cases e2 : i = p
      · rw [if_pos ⟨e2, hi⟩, if_pos e2.symm]
      · rw [if_neg (fun hh => e2 hh.1), if_neg (fun hh => e2 hh.symm), if_neg (fun hh => e hh.symm)]
  have hml : ∀ k', k' < 3 → ((s.setMat k (swR (s.mat k) i j)).mat k').length = (s.mat k').length := fun k' hk' => by
    rw [mat_setMat s _ hk hk']
    split
    · rename_i e; subst e; exact hlen
    · rfl
  have hswl : ∀ p, p < (s.mat k).length → sw i j p < (s.mat k).length := fun p hp => sw_bd hi hj hp
  have hinj : ∀ p q, sw i j p = sw i j q → p = q := fun p q e => by
    unfold sw at e
    split at e <;> split at e <;> first | omega | (split at e <;> first | omega | (split at e <;> omega))
  refine ⟨h.ty, h.bb, (hne b fun e => ?_).trans h.box, fun k' hk' => ?_, fun k' p hk' hp => ?_, fun k1 i1 k2 i2 h1 h2 h3 h4 e => ?_, h.sep⟩
  · rw [← e, h.box] at hCg
    injection hCg with h5
    injection h5 with _ h6 _
    exact h.ty.2 h6
  · by_cases e : k = k'
    · subst e
      rw [mat_set_self, hlen]
      have h2 := owns_set (i := j) (owns_set (i := i) (h.out k hk) hg (.slice (some ⟨bl k j, 0, none⟩) ((s.mat k).getD j []).length (cs k j))) hg (.slice (some ⟨bl k i, 0, none⟩) ((s.mat k).getD i []).length (cs k i))
      have e2 : ((((List.range (s.mat k).length).map fun i => Value.slice (some ⟨bl k i, 0, none⟩) ((s.mat k).getD i []).length (cs k i)).set i (.slice (some ⟨bl k j, 0, none⟩) ((s.mat k).getD j []).length (cs k j))).set j (.slice (some ⟨bl k i, 0, none⟩) ((s.mat k).getD i []).length (cs k i))) =
          (List.range (s.mat k).length).map fun p => Value.slice (some ⟨if k = k then bl k (sw i j p) else bl k p, 0, none⟩) ((swR (s.mat k) i j).getD p []).length (if k = k then cs k (sw i j p) else cs k p) := by
        apply List.ext_getElem (by simp)
        intro p hp1 hp2
        simp only [List.length_set, List.length_map, List.length_range] at hp1
        rw [List.getElem_set, List.getElem_set]
        simp only [List.getElem_map, List.getElem_range, hrow p, if_true]
        unfold sw
        by_cases e3 : j = p
        · subst e3
          rw [if_pos rfl]
          by_cases e4 : j = i
          · rw [if_pos e4, e4]
          · rw [if_neg e4, if_pos rfl]
        · rw [if_neg e3]
          by_cases e4 : i = p
          · rw [if_pos e4, if_pos e4.symm]
          · rw [if_neg e4, if_neg (fun h => e4 h.symm), if_neg (fun h => e3 h.symm)]
      rw [← e2]
      exact h2
    · have e1 : (s.setMat k (swR (s.mat k) i j)).mat k' = s.mat k' := by rw [mat_setMat s _ hk hk', if_neg e]
      have e' : k' ≠ k := fun hh => e hh.symm
      simp only [e1, if_neg e']
      exact owns_keep (h.out k' hk') fun r hr => hne r fun e2 => h.sep k' k hk' hk e' r hr (by rw [e2]; exact hg)
  · rw [hml k' hk'] at hp
    by_cases e : k' = k
    · subst e
      have h4 := h.row k' _ hk' (hswl p hp)
      rw [mat_set_self]
      simp only [if_true, hrow p]
      exact ⟨h4.1, h4.2.1.keep (hne _ fun e2 => by
        obtain ⟨C, hC⟩ := h.row_ty hk' (hswl p hp)
        rw [e2, hCg] at hC
        injection hC with h5
        injection h5 with _ h6 _
        exact absurd h6 (by decide)), h4.2.2⟩
    · have e1 : (s.setMat k (swR (s.mat k) i j)).mat k' = s.mat k' := by rw [mat_setMat s _ hk hk', if_neg (fun hh => e hh.symm)]
      have h4 := h.row k' p hk' hp
      simp only [e1, if_neg e]
      exact ⟨h4.1, h4.2.1.keep (hne _ fun e2 => by
        obtain ⟨C, hC⟩ := h.row_ty hk' hp
        rw [e2, hCg] at hC
        injection hC with h5
        injection h5 with _ h6 _
        exact absurd h6 (by decide)), h4.2.2⟩
  · rw [hml k1 h1] at h3
    rw [hml k2 h2] at h4
    have key := fun (a c : Nat) (ha : a < (s.mat k1).length) (hc : c < (s.mat k2).length) (e : bl k1 a = bl k2 c) => h.inj k1 a k2 c h1 h2 ha hc e
    by_cases c1 : k1 = k
    · by_cases c2 : k2 = k
      · subst c1; subst c2
        simp only [if_true] at e
        exact ⟨rfl, hinj _ _ (key _ _ (hswl _ h3) (hswl _ h4) e).2⟩
      · subst c1
        simp only [if_true, if_neg c2] at e
        exact absurd (key _ _ (hswl _ h3) h4 e).1 (fun hh => c2 hh.symm)
    · by_cases c2 : k2 = k
      · subst c2
        simp only [if_true, if_neg c1] at e
        exact absurd (key _ _ h3 (hswl _ h4) e).1 c1
      · simp only [if_neg c1, if_neg c2] at e
        exact key _ _ h3 h4 e
end
/-- what a call may turn: nothing below base, and of the blocks of other types than those of the state nothing -/
structure Ch (base : Nat) (w w' : World) : Prop where
  below : Below base w w'
  keep : ∀ (p : Nat) (C : Array Value) (e : TypeId), w.heap[p]? = some (.cells C e (0, 0)) → e ≠ 3 → e ≠ 25 → e ≠ 62 → e ≠ 86 → w'.heap[p]? = w.heap[p]?
section
variable {base : Nat} {w w' w'' : World}
theorem Ch.refl (base : Nat) (w : World) : Ch base w w := ⟨Below.refl _ _, fun _ _ _ _ _ _ _ _ => rfl⟩
theorem Ch.of_below (hb : base ≤ w.heap.size) (h : Below w.heap.size w w') : Ch base w w' := ⟨h.mono hb, fun p _ _ hp _ _ _ _ => h.block p (Array.getElem?_eq_some_iff.1 hp).1⟩
theorem Ch.trans (h : Ch base w w') (h' : Ch base w' w'') : Ch base w w'' := ⟨h.below.trans h'.below, fun p C e hp h3 h4 h5 h6 => by
  have h1 := h.keep p C e hp h3 h4 h5 h6
  exact (h'.keep p C e (h1.trans hp) h3 h4 h5 h6).trans h1⟩
theorem Ch.setCell (h : Ch base w w') {b : Nat} (hb : base ≤ b) {C : Array Value} {e : TypeId} (hC : w'.heap[b]? = some (.cells C e (0, 0))) (he : e = 3 ∨ e = 25 ∨ e = 62 ∨ e = 86) (k : Nat) (v : Value) : Ch base w (w'.setCell ⟨b, k, none⟩ v) :=
  ⟨h.below.setCell (p := ⟨b, k, none⟩) hb v, fun p C' e' hp h3 h4 h5 h6 => by
    have h1 := h.keep p C' e' hp h3 h4 h5 h6
    refine (Below.heap_setCell w' ⟨b, k, none⟩ v p fun e2 => ?_).trans h1
    have e3 : p = b := e2
    rw [← h1, e3, hC] at hp
    injection hp with h7
    injection h7 with _ h8 _
    subst h8
    rcases he with he | he | he | he
    · exact h3 he
    · exact h4 he
    · exact h5 he
    · exact h6 he⟩
theorem Ch.drew (h : Ch base w w') : Ch base w w'.drew := ⟨⟨h.below.os, h.below.tape, h.below.output, h.below.size, h.below.block⟩, h.keep⟩
theorem Ch.drewN (h : Ch base w w') (n : Nat) : Ch base w (w'.drewN n) := ⟨⟨h.below.os, h.below.tape, h.below.output, h.below.size, h.below.block⟩, h.keep⟩
theorem Ch.size (h : Ch base w w') : w.heap.size ≤ w'.heap.size := h.below.size
theorem Ch.mono {b' : Nat} (h : Ch base w w') (hb : b' ≤ base) : Ch b' w w' := ⟨h.below.mono hb, h.keep⟩
end
end Go.Proofs
namespace Go.Proofs
open Go.RowKit Go.Shelf Go.Proofs.Sm
/-- the first j entries of q, then those of p -/
def mixL (p q : List Int) (j : Nat) : List Int := q.take j ++ p.drop j
theorem mixL_zero (p q : List Int) : mixL p q 0 = p := by simp [mixL]
theorem mixL_full {p q : List Int} {j : Nat} (h : p.length ≤ j) (h2 : q.length ≤ j) : mixL p q j = q := by simp [mixL, List.drop_eq_nil_of_le h, List.take_of_length_le h2]
theorem mixL_length {p q : List Int} (h : q.length = p.length) (j : Nat) : (mixL p q j).length = p.length := by simp [mixL]; omega
theorem mixL_getD {p q : List Int} (h : q.length = p.length) (j i : Nat) : (mixL p q j).getD i 0 = if i < j then q.getD i 0 else p.getD i 0 := by
  simp only [mixL, List.getD_eq_getElem?_getD, List.getElem?_append, List.getElem?_take, List.getElem?_drop, List.length_take]
  rcases Nat.lt_or_ge i q.length with h1 | h1
  · by_cases h2 : i < j
    · rw [if_pos (by omega), if_pos h2, if_pos h2]
    · rw [if_neg (by omega), if_neg h2, show j + (i - min j q.length) = i by omega]
  · rw [if_neg (by omega), List.getElem?_eq_none (by omega : p.length ≤ j + (i - min j q.length)), List.getElem?_eq_none h1, List.getElem?_eq_none (by omega : p.length ≤ i)]
    split <;> rfl
theorem mixL_set {p q : List Int} (h : q.length = p.length) {j : Nat} (_hj : j < p.length) {z : Int} (hz : z = q.getD j 0) : (mixL p q j).set j z = mixL p q (j + 1) := by
  refine getD_ext (d := 0) (by rw [List.length_set, mixL_length h, mixL_length h]) fun i hi => ?_
  rw [List.length_set, mixL_length h] at hi
  rw [getD_set_, mixL_getD h, mixL_getD h, mixL_length h]
  by_cases e : j = i
  · subst e; rw [if_pos ⟨rfl, by omega⟩, if_pos (by omega), hz]
  · rw [if_neg (fun hh => e hh.1)]
    by_cases e2 : i < j
    · rw [if_pos e2, if_pos (by omega)]
    · rw [if_neg e2, if_neg (by omega)]
def In64 (x : Int) : Prop := -9223372036854775808 ≤ x ∧ x ≤ 9223372036854775807
/-- row k, x times, may be added to row i -/
def FitR (m : Mat) (i k : Nat) (x : Int) : Prop := ∀ j, In64 (ent m i j) ∧ In64 (ent m k j) ∧ In64 (x * ent m k j) ∧ In64 (ent m i j + x * ent m k j)
/-- the first c of the matrices a, u added to -/
def addTo (s : S) (i k : Nat) (x : Int) : Nat → S
  | 0 => s
  | 1 => s.setMat 0 (Sm.addR s.a i k x)
  | _ => s.addR i k x
theorem addTo_succ (s : S) (i k : Nat) (x : Int) {c : Nat} (hc : c < 2) : (addTo s i k x c).setMat c (Sm.addR (s.mat c) i k x) = addTo s i k x (c + 1) := by
  obtain rfl | rfl : c = 0 ∨ c = 1 := by omega
  all_goals rfl
theorem addTo_mat (s : S) (i k : Nat) (x : Int) {c : Nat} (hc : c < 2) : (addTo s i k x c).mat c = s.mat c := by
  obtain rfl | rfl : c = 0 ∨ c = 1 := by omega
  all_goals rfl
/-- row i with its first j entries added to -/
def mixM (m : Mat) (i k : Nat) (x : Int) (j : Nat) : Mat := m.set i (mixL (m.getD i []) (addL (m.getD i []) (m.getD k []) x) j)
theorem mixM_length (m : Mat) (i k : Nat) (x : Int) (j : Nat) : (mixM m i k x j).length = m.length := by simp [mixM]
section
variable {m : Mat} {r n i k j : Nat} {x : Int}
theorem addL_rect (h : Rect m r n) (hi : i < r) (hk : k < r) (x : Int) : (addL (m.getD i []) (m.getD k []) x).length = (m.getD i []).length := addL_length _ _ _ (by rw [rect_row h hi, rect_row h hk])
theorem mixM_row (h : Rect m r n) (hi : i < r) (hk : k < r) (p : Nat) : ((mixM m i k x j).getD p []).length = (m.getD p []).length := by
  unfold mixM
  rw [getD_set_]
  split
  · rename_i e
    obtain ⟨rfl, -⟩ := e
    rw [mixL_length (addL_rect h hi hk x)]
  · rfl
theorem mixM_zero (_h : Rect m r n) (_hi : i < r) : mixM m i k x 0 = m := by
  unfold mixM
  rw [mixL_zero]
  apply List.ext_getElem (by simp)
  intro p h1 h2
  rw [List.getElem_set]
  split
  · rename_i e; subst e
    simp [List.getD_eq_getElem?_getD, List.getElem?_eq_getElem h2]
  · rfl
theorem mixM_full (h : Rect m r n) (hi : i < r) (hk : k < r) (hj : n ≤ j) : mixM m i k x j = Sm.addR m i k x := by
  unfold mixM Sm.addR
  rw [mixL_full (by rw [rect_row h hi]; exact hj) (by rw [addL_rect h hi hk, rect_row h hi]; exact hj)]
theorem mixM_ent (h : Rect m r n) (hi : i < r) (hk : k < r) (p : Nat) : ent (mixM m i k x j) p j = ent m p j := by
  unfold ent mixM
  rw [getD_set_]
  split
  · rename_i e
    obtain ⟨rfl, -⟩ := e
    rw [mixL_getD (addL_rect h hi hk x), if_neg (by omega)]
  · rfl
theorem put_mixM (h : Rect m r n) (hi : i < r) (hk : k < r) (hj : j < n) : put (mixM m i k x j) i j (ent m i j + x * ent m k j) = mixM m i k x (j + 1) := by
  unfold put mixM
  rw [getD_set_, if_pos ⟨rfl, by rw [h.1]; exact hi⟩, mixL_set (addL_rect h hi hk x) (by rw [rect_row h hi]; exact hj) (by rw [addL_getD _ _ _ _ (by rw [rect_row h hi, rect_row h hk])]; rfl), List.set_set]
end
theorem lit2_keep {w : World} {B : Nat} {C : Array Value} {b' k : Nat} {D : Array Value} {v : Value} (h : w.heap[B]? = some (.cells C 40 (0, 0))) (hb : w.heap[b']? = some (.cells D 3 (0, 0))) : (w.setCell ⟨b', k, none⟩ v).heap[B]? = some (.cells C 40 (0, 0)) := by
  rw [Below.heap_setCell w ⟨b', k, none⟩ v B fun e => ?_]
  · exact h
  · have e' : B = b' := e
    rw [e', hb] at h
    cases h
theorem below_drew {B : Nat} {a w : World} (h : Below B a w) : Below B a w.drew := ⟨h.os, h.tape, h.output, h.size, h.block⟩
theorem heap_alloc_two (w : World) (o o' : Obj) : ((w.alloc o).alloc o').drew.heap[w.heap.size + 1]? = some o' := by
  have := heap_alloc_new (w.alloc o) o'
  rw [World.size_alloc] at this
  exact this
theorem below_two (w : World) (o o' : Obj) : Below w.heap.size w ((w.alloc o).alloc o').drew := below_drew (((Below.refl _ _).alloc (Nat.le_refl _) _).alloc (by simp) _)
set_option maxRecDepth 100000 in
set_option maxHeartbeats 1000000 in
theorem radd106_any (base b i k r n : Nat) (q : Int) (w : World) (s : S) (x : Value) (hs : Shape r n s) (hi : i < r) (hk : k < r) (hr : r ≤ 1000000) (hn : n ≤ 1000000) (hS : Wk 62 b base w s x) (hbw : base ≤ w.heap.size) (hfa : FitR s.a i k q) (hfu : FitR s.u i k q) :
    Calls Tryz.prog 100 #[.agg #[.pointer (some ⟨b, 0, none⟩)], .int .i64 (i : Int), .int .i64 (k : Int), .int .i64 q] w fun e w' => e = .returned (.tuple #[]) ∧ Wk 62 b base w' (s.addR i k q) x ∧ Ch base w w' := by
  obtain ⟨vs, bl, cs, hM⟩ := hS
  obtain ⟨c0, c1, c2, c3, c4⟩ := hM.cells
  have hbl := hM.lt
  obtain ⟨A0, d0, hv0, -, -⟩ := hM.form (k := 0) (by omega)
  obtain ⟨A1, d1, hv1, -, -⟩ := hM.form (k := 1) (by omega)
  rw [show (s.mat 0).length = r from hs.ra.1] at hv0
  rw [show (s.mat 1).length = r from hs.ru.1] at hv1
  rw [hv0] at c0
  rw [hv1] at c1
  have HV0 := Lib.hid hv0
  have HV1 := Lib.hid hv1
  have HM := Lib.hid hM
  have HS := Lib.hid hs
  have HF : Hid (∀ c, c < 2 → FitR (s.mat c) i k q) := Lib.hid fun c hc => by
    obtain rfl | rfl : c = 0 ∨ c = 1 := by omega
    · exact hfa
    · exact hfu
  clear hM hs hfa hfu c2 c3 hv0 hv1
  have hk0 : (0 : Int) ≤ (k : Int) := Int.natCast_nonneg _
  have hi0 : (0 : Int) ≤ (i : Int) := Int.natCast_nonneg _
  go_enter Tryz.func100, Tryz.ntmps100
  go_wp2_with fail
  go_region
  go_wp2_with fail
  go_loopw [24] (fun z wr => ∃ c : Nat, c ≤ 2 ∧ z = .int .i64 c ∧ Hid (WkM 62 b base wr (addTo s i k q c) x vs bl cs ∧ wr.heap[w.heap.size + 1]? = some (.cells #[vs 0, vs 1] 40 (0, 0)) ∧ Ch base w wr)) (fun z _ => 2 - (intOf z).toNat)
  case atStart => exact ⟨0, by omega, rfl, Lib.hid ⟨HM.out.below (below_two _ _ _), by rw [HV0.out, HV1.out]; exact heap_alloc_two _ _ _, Ch.of_below hbw (below_two _ _ _)⟩⟩
  case round =>
    obtain ⟨c, hc, rfl, HR⟩ := hrel
    obtain ⟨wo, rfl⟩ : ∃ wo, wo = wr := ⟨_, rfl⟩
    have hcc0 : (0 : Int) ≤ (c : Int) := Int.natCast_nonneg _
    by_cases hlt : c < 2
    · have hlt' : (c : Int) < 2 := by omega
      obtain ⟨L, hR, hL⟩ : ∃ L, Rect (s.mat c) r L ∧ L ≤ 1000000 := by
        obtain rfl | rfl : c = 0 ∨ c = 1 := by omega
        · exact ⟨n, HS.out.ra, hn⟩
        · exact ⟨r, HS.out.ru, hr⟩
      have hlen : ((addTo s i k q c).mat c).length = r := by rw [addTo_mat s i k q hlt]; exact hR.1
      have hrl : ∀ p, p < r → (((addTo s i k q c).mat c).getD p []).length = L := fun p hp => by rw [addTo_mat s i k q hlt]; exact rect_row hR hp
      obtain ⟨g, d, hv, hg1, -, -⟩ := HR.out.1.row_at (k := c) (i := k) (by omega) (by rw [hlen]; exact hk)
      rw [hrl k hk] at hg1
      rw [hlen] at hv
      have hlit : wo.cell? ⟨w.heap.size + 1, c, none⟩ = some (.slice (some ⟨g, 0, none⟩) r d) := by
        rw [cell_of_row _ _ _ _ _ _ HR.out.2.1]
        obtain rfl | rfl : c = 0 ∨ c = 1 := by omega
        · rw [← hv]; rfl
        · rw [← hv]; rfl
      have hcc := (HR.out.1.row c k (by omega) (by rw [hlen]; exact hk)).2.2
      rw [hrl k hk] at hcc
      have hc1 : (L : Int) ≤ (cs c k : Int) := by omega
      have HRL := Lib.hid hrl
      have HL := Lib.hid hlen
      have HV := Lib.hid hv
      have HR2 := Lib.hid hR
      clear hrl hlen hv hR hcc
      have hkr : (k : Int) < (r : Int) := by omega
      have hir : (i : Int) < (r : Int) := by omega
      go_wp2_with fail
      go_loopw [33] (fun z wr => ∃ j : Nat, j ≤ L ∧ z = .int .i64 j ∧ Hid (WkM 62 b base wr ((addTo s i k q c).setMat c (mixM (s.mat c) i k q j)) x vs bl cs ∧ wr.heap[w.heap.size + 1]? = some (.cells #[vs 0, vs 1] 40 (0, 0)) ∧ Ch base w wr)) (fun z _ => L - (intOf z).toNat)
      case atStart => exact ⟨0, by omega, rfl, Lib.hid ⟨by rw [mixM_zero HR2.out hi, ← addTo_mat s i k q hlt, setMat_self]; exact HR.out.1, HR.out.2.1, HR.out.2.2⟩⟩
      case round =>
        obtain ⟨j, hj, rfl, HQ⟩ := hrel
        have hj0 : (0 : Int) ≤ (j : Int) := Int.natCast_nonneg _
        by_cases hjl : j < L
        · have hjl' : (j : Int) < (L : Int) := by omega
          have hm : ((addTo s i k q c).setMat c (mixM (s.mat c) i k q j)).mat c = mixM (s.mat c) i k q j := mat_set_self _ _ _
          have hml : (mixM (s.mat c) i k q j).length = r := by rw [mixM_length]; exact HR2.out.1
          have hmr : ∀ p, p < r → ((mixM (s.mat c) i k q j).getD p []).length = L := fun p hp => by rw [mixM_row HR2.out hi hk]; exact rect_row HR2.out hp
          obtain ⟨g2, d2, hv2, hq1, -, -⟩ := HQ.out.1.row_at (k := c) (i := i) (by omega) (by rw [hm, hml]; exact hi)
          rw [hm, hmr i hi] at hq1
          rw [hm, hml, HV.out] at hv2
          obtain rfl : g = g2 := by injection hv2 with e1; injection e1 with e2; injection e2
          obtain ⟨hq2, hq3⟩ := HQ.out.1.ent_at (k := c) (i := i) (j := j) (by omega) (by rw [hm, hml]; exact hi) (by rw [hm, hmr i hi]; exact hjl)
          obtain ⟨hq4, -⟩ := HQ.out.1.ent_at (k := c) (i := k) (j := j) (by omega) (by rw [hm, hml]; exact hk) (by rw [hm, hmr k hk]; exact hjl)
          rw [hm, mixM_ent HR2.out hi hk] at hq2 hq4
          have hset := HQ.out.1.set (k := c) (i := i) (j := j) (by omega) (by rw [hm, hml]; exact hi) (by rw [hm, hmr i hi]; exact hjl) (ent (s.mat c) i j + q * ent (s.mat c) k j)
          rw [hm, setMat_setMat, put_mixM HR2.out hi hk hjl] at hset
          obtain ⟨D, hD⟩ := HQ.out.1.row_ty (k := c) (i := i) (by omega) (by rw [hm, hml]; exact hi)
          have hkeep := lit2_keep (k := j) (v := .int .i64 (ent (s.mat c) i j + q * ent (s.mat c) k j)) HQ.out.2.1 hD
          have hbel := HQ.out.2.2.setCell (HQ.out.1.row c i (by omega) (by rw [hm, hml]; exact hi)).1 hD (.inl rfl) j (.int .i64 (ent (s.mat c) i j + q * ent (s.mat c) k j))
          have HN : Hid (WkM 62 b base (wr.setCell ⟨bl c i, j, none⟩ (.int .i64 (ent (s.mat c) i j + q * ent (s.mat c) k j))) ((addTo s i k q c).setMat c (mixM (s.mat c) i k q (j + 1))) x vs bl cs ∧ (wr.setCell ⟨bl c i, j, none⟩ (.int .i64 (ent (s.mat c) i j + q * ent (s.mat c) k j))).heap[w.heap.size + 1]? = some (.cells #[vs 0, vs 1] 40 (0, 0)) ∧ Ch base w (wr.setCell ⟨bl c i, j, none⟩ (.int .i64 (ent (s.mat c) i j + q * ent (s.mat c) k j)))) := Lib.hid ⟨hset, hkeep, hbel⟩
          have hcc := (HQ.out.1.row c i (by omega) (by rw [hm, hml]; exact hi)).2.2
          rw [hm, hmr i hi] at hcc
          obtain ⟨f1, f2, f3, f4⟩ := HF.out c hlt j
          clear hm hml hmr hv2 hset hD hkeep hbel
          generalize ent (s.mat c) i j = z at *
          generalize ent (s.mat c) k j = y at *
          obtain ⟨f1a, f1b⟩ := f1
          obtain ⟨f2a, f2b⟩ := f2
          obtain ⟨f3a, f3b⟩ := f3
          obtain ⟨f4a, f4b⟩ := f4
          have hcc1 := hcc.1
          have hcc2 := hcc.2
          clear hcc
          go_wp2_with fail
          go_roundw
          case rel => exact ⟨j + 1, by omega, by go_num, HN⟩
          case measure => simp [intOf]; omega
        · obtain rfl : j = L := by omega
          go_wp2_with fail
          go_roundw
          case rel => exact ⟨c + 1, by omega, by go_num, Lib.hid ⟨by have := HQ.out.1; rw [mixM_full HR2.out hi hk (Nat.le_refl _), addTo_succ s i k q hlt] at this; exact this, HQ.out.2.1, HQ.out.2.2⟩⟩
          case measure => simp [intOf]; omega
    · obtain rfl : c = 2 := by omega
      go_wp2_with fail
      go_end0
      exact ⟨rfl, ⟨vs, bl, cs, HR.out.1⟩, HR.out.2.2⟩
end Go.Proofs
namespace Go.Proofs
open Go.RowKit Go.Shelf Go.Proofs.Sm
theorem run_append_zeros (w : World) (n : Nat) (h0 : 0 < n) (hn : n ≤ 1000000) :
    (Builtin.append_ #[40, 3] 40 #[.slice none 0 0, .int .i64 (n : Int)]).run Tryz.prog w =
      .ok (.slice (some ⟨w.heap.size, 0, none⟩) n (grownCap w n 0 25)) (w.drew.alloc (.cells (Builtin.zeroCells #[.slice none 0 0] n ++ Builtin.zeroCells #[.slice none 0 0] (grownCap w n 0 25 - n)) 25)) := by
  obtain ⟨i, hi, hz, hs, hby⟩ := info24p
  have hwr : IntKind.i64.wrap (n : Int) = n := IntWalk.i64_in _ (by omega)
  have hn0 : n ≠ 0 := by omega
  have h48 : ¬ (281474976710656 < Builtin.nextslicecap n 0 * i.bytes) := by rw [nextslicecap_zero h0, hby]; omega
  have h48' : ¬ ((281474976710656 : Int) < (n : Int) * (i.bytes : Int)) := by rw [hby]; omega
  have h63' : ¬ (9223372036854775807 < (n : Int)) := by omega
  have hneg : ¬ ((n : Int) < 0) := by omega
  simp [Builtin.append_, run_underlying Tryz.underlying40, run_underlying Tryz.underlying3, sizeOf, typeInfo, zeroValue, hi, hz, hs, asInt, asIntOf, hwr, hneg, h48', hn0, h48, h63', Question.forced, run_firstCells_none, newRow, grownCap, Value.cells]
theorem r_app2 {o : Oper} {a : Act} {w w' : World} (s x : Operand) (t u : TypeId) {sv xv v' : Value} (ho : o.op = .call { callee := .builtin .append, args := #[s, x], argTypes := #[t, u] }) (hs : a.eval s = sv) (hx : a.eval x = xv)
    (hr : (Builtin.append_ #[t, u] o.type #[sv, xv]).run Tryz.prog w = .ok v' w') : (execOp a.eval o).run Tryz.prog w = .ok (.value v') w' := by
  unfold execOp
  simp only [ho, resolve, invoke, builtin, Sem.run_bind, Sem.run_pure, Result.andThen_ok, List.map_toArray, List.map_cons, List.map_nil, hs, hx, hr]
/-- values of the call's own -/
def ValsPost (base : Nat) (x : List Value) (w : World) (e : Ending) (w' : World) : Prop := ∃ A c, e = .returned (.slice A x.length c) ∧ w'.ownsRow base 25 1 (.slice A x.length c) x.length x ∧ Below w.heap.size w w'
set_option maxRecDepth 100000 in
theorem grow98_any (w : World) (n : Nat) (hn : n ≤ 1000000) : Calls Tryz.prog 93 #[.slice none 0 0, .int .i64 (n : Int)] w (ValsPost w.heap.size [] w) := by
  have hn0 : (0 : Int) ≤ (n : Int) := Int.natCast_nonneg _
  have hn1 : (n : Int) ≤ 1000000 := by omega
  by_cases h0 : n = 0
  · subst h0
    go_enter Tryz.func93, Tryz.ntmps93
    go_wp2_with fail
    go_ret
    exact ⟨none, 0, rfl, World.ownsRow_nil _ _ _ _, Below.refl _ _⟩
  · have hpos : (0 : Int) < (n : Int) := by omega
    have hr := run_append_zeros w n (by omega) hn
    have hcm := grownCap_le_maxLen w n 0 25 (by unfold maxLen; omega)
    have hcg := grownCap_ge w n 0 25
    have hsz : (Builtin.zeroCells #[Value.slice none 0 0] n ++ Builtin.zeroCells #[Value.slice none 0 0] (grownCap w n 0 25 - n)).size = grownCap w n 0 25 := by
      simp [size_zeroCells]; omega
    have hnew := heap_alloc_new w.drew (.cells (Builtin.zeroCells #[Value.slice none 0 0] n ++ Builtin.zeroCells #[Value.slice none 0 0] (grownCap w n 0 25 - n)) 25)
    have hbel : Below w.heap.size w (w.drew.alloc (.cells (Builtin.zeroCells #[Value.slice none 0 0] n ++ Builtin.zeroCells #[Value.slice none 0 0] (grownCap w n 0 25 - n)) 25)) := (below_drewN (Below.refl w.heap.size w) 1).alloc (Nat.le_refl _) _
    generalize Builtin.zeroCells #[Value.slice none 0 0] n ++ Builtin.zeroCells #[Value.slice none 0 0] (grownCap w n 0 25 - n) = C at *
    generalize grownCap w n 0 25 = cap at *
    have hown : (w.drew.alloc (.cells C 25)).ownsRow w.heap.size 25 1 (.slice (some ⟨w.heap.size, 0, none⟩) 0 cap) 0 [] := ⟨rfl, .inr ⟨w.heap.size, cap, C, rfl, Nat.le_refl _, hnew, Nat.zero_le _, hcm, by omega, by simp⟩⟩
    generalize w.drew.alloc (.cells C 25) = W at *
    have hcm' : cap ≤ 9223372036854775807 := by unfold maxLen at hcm; exact hcm
    have hcg' : (n : Int) ≤ (cap : Int) := by omega
    have HR := Lib.hid hr
    have HO := Lib.hid hown
    have HB := Lib.hid hbel
    clear hr hown hbel hnew hsz hcm
    go_enter Tryz.func93, Tryz.ntmps93
    go_wp2_with ((with_reducible refine wpList_sel 22 ?_); refine wpList_val rfl (r_app2 (.tmp 20) (.tmp 21) 40 3 rfl rfl rfl HR.out) ?_)
    go_ret
    exact ⟨_, cap, rfl, HO.out, HB.out⟩
/-- a slice whose elements (of one cell each) are these values -/
def SlV (w : World) (v : Value) (xs : List Value) : Prop := Sl w v xs ∧ ∀ y ∈ xs, y.oneCell' = true
theorem SlV.below {w w' : World} {v : Value} {xs : List Value} (h : SlV w v xs) (hb : Below w.heap.size w w') : SlV w' v xs := ⟨h.1.below hb, h.2⟩
/-- the first k lists one after the other -/
def catV (xs : List (List Value)) (k : Nat) : List Value := (xs.take k).flatten
theorem catV_succ (xs : List (List Value)) {k : Nat} (hk : k < xs.length) : catV xs (k + 1) = catV xs k ++ xs.getD k [] := by
  unfold catV
  rw [List.take_succ_eq_append_getElem hk, List.flatten_append]
  simp [List.getD_eq_getElem?_getD, hk]
theorem catV_mono (xs : List (List Value)) {k m : Nat} (h : k ≤ m) (hm : m ≤ xs.length) : (catV xs k).length ≤ (catV xs m).length := by
  obtain ⟨d, rfl⟩ := Nat.exists_eq_add_of_le h
  clear h
  induction d with
  | zero => exact Nat.le_refl _
  | succ d ih =>
    have := ih (by omega)
    rw [← Nat.add_assoc, catV_succ xs (by omega), List.length_append]
    omega
set_option maxRecDepth 100000 in
set_option maxHeartbeats 1000000 in
theorem concat90_any (w : World) (v : Value) (xs : List (List Value)) (h : LAt SlV [] w v xs) (hl : (catV xs xs.length).length ≤ 1000000) : Calls Tryz.prog 85 #[v] w (ValsPost w.heap.size (catV xs xs.length) w) := by
  obtain ⟨A0, c0, rfl, hc1, hc2, hc⟩ := h.open_
  have HC := Lib.hid hc
  clear hc h
  have hx0 : (0 : Int) ≤ (xs.length : Int) := Int.natCast_nonneg _
  go_enter Tryz.func85, Tryz.ntmps85
  go_wp2_with fail
  go_loop [3, 11] (fun so i => ∃ k n : Nat, i = .int .i64 k ∧ k ≤ xs.length ∧ so = .int .i64 n ∧ Hid (n = (catV xs k).length)) (fun _ i => xs.length - (intOf i).toNat)
  case atStart => exact ⟨0, 0, rfl, by omega, rfl, Lib.hid rfl⟩
  case round =>
    obtain ⟨k, n, rfl, hk, rfl, HN⟩ := hrel
    have hk0 : (0 : Int) ≤ (k : Int) := Int.natCast_nonneg _
    have hn0 : (0 : Int) ≤ (n : Int) := Int.natCast_nonneg _
    by_cases hlt : k < xs.length
    · have hlt' : (k : Int) < (xs.length : Int) := by omega
      obtain ⟨b, o, rfl, hcc⟩ := HC.out (by omega)
      obtain ⟨u, hu, hI⟩ := hcc k hlt
      obtain ⟨A5, q, c5, rfl, h1, h2, h3, -⟩ := hI.1
      have hst := catV_succ xs hlt
      have hmo := catV_mono xs (k := k + 1) (m := xs.length) (by omega) (by omega)
      have hb : (n : Int) + (q : Int) ≤ 1000000 := by have := HN.out; rw [hst, List.length_append] at hmo; omega
      have HN2 : Hid (n + q = (catV xs (k + 1)).length) := Lib.hid (by rw [hst, List.length_append, HN.out, h1])
      clear hcc hI hst hmo h1
      unfold maxLen at h3
      have hq0 : (0 : Int) ≤ (q : Int) := Int.natCast_nonneg _
      go_wp2_with fail
      go_round
      case rel => exact ⟨k + 1, n + q, by go_num, by omega, by go_num, HN2⟩
      case measure => simp [intOf]; omega
    · obtain rfl : k = xs.length := by omega
      have HG := Lib.hid (grow98_any w n (by have := HN.out; omega))
      go_wp2_with (go_at_call 93; (refine HG.out.mono ?_); rintro e w1 ⟨A1, c1, rfl, ho, hb⟩; have HO := Lib.hid ho; have HB := Lib.hid hb; clear ho hb)
      go_loopw [6, 27] (fun so i wr => ∃ k n : Nat, i = .int .i64 k ∧ k ≤ xs.length ∧ Hid (n = (catV xs k).length) ∧ ∃ A c, so = .slice A n c ∧ Hid (wr.ownsRow w.heap.size 25 1 so n (catV xs k) ∧ Below w.heap.size w wr)) (fun _ i _ => xs.length - (intOf i).toNat)
      case atStart => exact ⟨0, 0, rfl, by omega, Lib.hid rfl, _, _, rfl, Lib.hid ⟨HO.out, HB.out⟩⟩
      case round =>
        clear HO HB HG HN hn0 hk0
        obtain ⟨k, n, rfl, hk, HN, A, c, rfl, HS⟩ := hrel
        have hk0 : (0 : Int) ≤ (k : Int) := Int.natCast_nonneg _
        by_cases hlt : k < xs.length
        · have hlt' : (k : Int) < (xs.length : Int) := by omega
          obtain ⟨b, o, rfl, hcc⟩ := HC.out (by omega)
          obtain ⟨u, hu, hI⟩ := hcc k hlt
          have hu' := (HS.out.2.cell (p := ⟨b, o + k, none⟩) (World.block_lt_of_cell? w _ hu)).trans hu
          have hmo := catV_mono xs (k := k + 1) (m := xs.length) (by omega) (by omega)
          have hst := catV_succ xs hlt
          have hnl := HN.out
          rw [hst, List.length_append] at hmo
          obtain ⟨A', c', w', hr, ho, hg, -⟩ := run_app (ty := 40) Tryz.underlying40 info24p rfl (by omega) wr w.heap.size (.slice A n c) n (catV xs k) HS.out.1 u (xs.getD k []) (hI.1.below HS.out.2) hI.2 (by omega) (by omega) HS.out.2.size
          rw [← hst] at ho
          have HR := Lib.hid hr
          have HN2 : Hid (n + (xs.getD k []).length = (catV xs (k + 1)).length) := Lib.hid (by rw [hst, List.length_append, HN.out])
          have HS2 : Hid (w'.ownsRow w.heap.size 25 1 (.slice A' (n + (xs.getD k []).length) c') (n + (xs.getD k []).length) (catV xs (k + 1)) ∧ Below w.heap.size w w') := Lib.hid ⟨ho, HS.out.2.grown hg HS.out.2.size (fun r hr => (owns_block HS.out.1 r hr).1)⟩
          clear hcc hu hI hmo hst hr ho hg hnl
          generalize (xs.getD k []).length = q at *
          go_wp2_with ((with_reducible refine wpList_sel 33 ?_); refine wpList_val rfl (r_app (.tmp 31) (.tmp 32) 40 rfl rfl rfl HR.out) ?_)
          go_roundw
          case rel => exact ⟨k + 1, _, by go_num, by omega, HN2, _, _, rfl, HS2⟩
          case measure => simp [intOf]; omega
        · obtain rfl : k = xs.length := by omega
          go_wp2_with fail
          go_ret
          exact ⟨A, c, by rw [← HN.out]; rfl, by rw [← HN.out]; exact HS.out.1, HS.out.2⟩
end Go.Proofs
