import Derived.Test.YtnhoiompdjabbaaColl
namespace Go.Proofs
open Go.RowKit Go.Proofs.Pc

theorem vec_congr {x y : List Int} (h : ∀ k, k < 12 → x.getD k 0 = y.getD k 0) : vec x = vec y := by
  unfold vec
  exact List.map_congr_left fun k hk => by rw [h k (by simpa using hk)]

theorem CollAt.setv {w : World} {bc br : Nat} {x y : List Int} {i : Nat} {v : Int} (h : CollAt w bc br x) (hi : i < 12) (hy : ∀ k, k < 12 → y.getD k 0 = if k = i then v else x.getD k 0) : CollAt (w.setCell ⟨bc, 1 + i, none⟩ (.int .i64 v)) bc br y := by
  have h' : w.heap[bc]? = some (.cells (Value.pointer (some ⟨br, 0, none⟩) :: vec x).toArray 113 (0, 0)) := h
  have hv : (vec x).set i (.int .i64 v) = vec y := by
    apply List.ext_getElem?
    intro k
    rw [List.getElem?_set]
    rcases Nat.lt_or_ge k 12 with hk | hk
    · rw [getElem?_vec _ hk, getElem?_vec _ hk, hy k hk]
      by_cases e : i = k
      · subst e; simp [length_vec, hk]
      · simp [e, Ne.symm e]
    · rw [List.getElem?_eq_none (by rw [length_vec]; exact hk), List.getElem?_eq_none (by rw [length_vec]; exact hk)]
      have : i ≠ k := by omega
      simp [this]
  unfold CollAt
  rw [← hv]
  simp [World.setCell, Array.getElem?_modify, h', Nat.add_comm 1 i]

theorem CollAt.zeros {bc br : Nat} : ∀ (m o : Nat) (w : World) (x y : List Int), CollAt w bc br x → o + m ≤ 12 → (∀ k, k < 12 → y.getD k 0 = if o ≤ k ∧ k < o + m then 0 else x.getD k 0) →
    CollAt (w.setCells bc (1 + o) (List.replicate m (.int .i64 0))) bc br y
  | 0, o, w, x, y, h, _, hy => by
    have : vec y = vec x := vec_congr fun k hk => by rw [hy k hk, if_neg (by omega)]
    unfold CollAt at h ⊢
    rw [this]
    exact h
  | m + 1, o, w, x, y, h, ho, hy => by
    rw [List.replicate_succ, World.setCells]
    refine CollAt.zeros m (o + 1) _ ((List.range 12).map fun k => if k = o then 0 else x.getD k 0) y (h.setv (by omega) fun k hk => ?_) (by omega) fun k hk => ?_
    · simp [List.getD_eq_getElem?_getD, List.getElem?_range hk]
    · rw [hy k hk]
      have : ((List.range 12).map fun k => if k = o then 0 else x.getD k 0).getD k 0 = if k = o then 0 else x.getD k 0 := by simp [List.getD_eq_getElem?_getD, List.getElem?_range hk]
      rw [this]
      by_cases e : k = o
      · subst e; simp
      · simp only [e, if_false]
        by_cases h2 : o ≤ k ∧ k < o + (m + 1)
        · rw [if_pos h2, if_pos (by omega)]
        · rw [if_neg h2, if_neg (by omega)]

theorem grownBy_setCells (b : Nat) : ∀ (vs : List Value) (o : Nat) (w : World), w.grownBy (w.setCells b o vs) (some b)
  | [], _, w => World.grownBy.refl w _
  | v :: r, o, w => by
    rw [World.setCells]
    exact only_trans (only_setCell (World.grownBy.refl w _) (.inl rfl) v) (grownBy_setCells b r (o + 1) _)

def cleared (x : List Int) (i : Nat) : List Int := (List.range x.length).map fun k => if k ≤ i then x.getD k 0 else 0
theorem getD_cleared (x : List Int) (i k : Nat) : (cleared x i).getD k 0 = if k ≤ i then x.getD k 0 else 0 := by
  unfold cleared
  rcases Nat.lt_or_ge k x.length with hk | hk
  · simp [List.getD_eq_getElem?_getD, List.getElem?_range hk]
  · simp only [List.getD_eq_getElem?_getD]
    rw [List.getElem?_eq_none (by simpa using hk), List.getElem?_eq_none hk]
    simp

theorem run_sliceAt_vec (w : World) (b o k : Nat) (hk : k ≤ 12) : (Instr.sliceAt 82 (.pointer (some ⟨b, o, none⟩)) (some (.int .i64 (k : Int))) none none).run Try.prog w =
    .ok (.slice (some (if 12 = k then ⟨b, o, none⟩ else ⟨b, o + k, none⟩)) (12 - k) (12 - k)) w := by
  have hs : (Try.prog.info? 3).map (·.size) = some 1 := by kernel_rfl
  cases hq : Try.prog.info? 3 with
  | none => simp [hq] at hs
  | some inf =>
    have hsz : inf.size = 1 := by simpa [hq] using hs
    have h1 : (k : Int) ≤ 12 := by omega
    simp [Instr.sliceAt, run_underlying Try.underlying82, Instr.sureAddr, Instr.sliceBounds, Instr.sliceBound, asIntOf, sizeOf, typeInfo, hq, hsz, hk]
    by_cases h : 12 = k
    · simp [h]
    · simp only [h, if_false]
      rw [Addr.add_mid]

theorem zero3 (w : World) : (zeroValue 3).run Try.prog w = .ok (.int .i64 0) w := by kernel_rfl

/-- 'clear(c.x[i+1:])' -/
theorem slice_clear {w : World} {bc br : Nat} {x : List Int} {i : Nat} (hc : CollAt w bc br x) (hi : i < 12) :
    ∃ sv w2, (∀ w', (Instr.sliceAt 82 (.pointer (some ⟨bc, 1, none⟩)) (some (.int .i64 ((i : Int) + 1))) none none).run Try.prog w' = .ok sv w') ∧
      (∀ ty, (Builtin.clear_ #[22] ty #[sv]).run Try.prog w = .ok (.tuple #[]) w2) ∧ CollAt w2 bc br (cleared x i) ∧ w.grownBy w2 (some bc) := by
  refine ⟨.slice (some (if 12 = i + 1 then ⟨bc, 1, none⟩ else ⟨bc, 1 + (i + 1), none⟩)) (12 - (i + 1)) (12 - (i + 1)), w.setCells bc (1 + (i + 1)) (List.replicate (12 - (i + 1)) (.int .i64 0)), fun w' => ?_, fun ty => ?_, ?_, grownBy_setCells _ _ _ _⟩
  · exact run_sliceAt_vec w' bc 1 (i + 1) (by omega)
  · by_cases h : 12 = i + 1
    · have h0 : 12 - (i + 1) = 0 := by omega
      rw [if_pos h, h0]
      simp [Builtin.clear_, run_underlying Try.underlying22, World.setCells]
    · rw [if_neg h]
      exact Lib.run_clear_slice w 22 3 ty (.int .i64 0) Try.underlying22 zero3 rfl rfl bc (1 + (i + 1)) _ _ (by omega) (fun j hj => by rw [show 1 + (i + 1) + j = 1 + (i + 1 + j) by omega, hc.cell (by omega)]; rfl) (fun j hj => hc.frozen _)
  · refine CollAt.zeros _ _ _ x _ hc (by omega) fun k hk => ?_
    rw [getD_cleared]
    by_cases h : k ≤ i
    · rw [if_pos h, if_neg (by omega)]
    · rw [if_neg h, if_pos (by omega)]
end Go.Proofs
