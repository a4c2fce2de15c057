/- Words for the reference: a list of numbers in a block of its own; a copy by append; a presentation below a block number. -/
import Derived.Test.YtnhoiompdjabbaaCp0
import Derived.Deep.AppendSrc
namespace Go.Proofs
open Go.RowKit Go.Proofs.Pc

/-- block b holds the numbers x (and may be longer) -/
def XsAt (w : World) (b : Nat) (x : List Int) : Prop := ∃ C : Array Value, w.heap[b]? = some (.cells C 3 (0, 0)) ∧ x.length ≤ C.size ∧ ∀ k, k < x.length → C[k]? = some (.int .i64 (x.getD k 0))
section
variable {w w' : World} {b k : Nat} {x y : List Int}
theorem XsAt.lt (h : XsAt w b x) : b < w.heap.size := by obtain ⟨C, hC, -⟩ := h; exact (Array.getElem?_eq_some_iff.1 hC).1
theorem XsAt.keep (h : XsAt w b x) (hk : w'.heap[b]? = w.heap[b]?) : XsAt w' b x := by
  obtain ⟨C, hC, h2, h3⟩ := h
  exact ⟨C, hk.trans hC, h2, h3⟩
theorem XsAt.below (h : XsAt w b x) (hb : Below w.heap.size w w') : XsAt w' b x := h.keep (hb.block _ h.lt)
theorem XsAt.grown {row : Option Nat} (h : XsAt w b x) (hg : w.grownBy w' row) (hr : some b ≠ row) : XsAt w' b x := h.keep (hg.block _ h.lt hr)
theorem XsAt.cell (h : XsAt w b x) (hk : k < x.length) : w.cell? ⟨b, k, none⟩ = some (.int .i64 (x.getD k 0)) := by
  obtain ⟨C, hC, -, h3⟩ := h
  rw [cell_of_row _ _ _ _ _ _ hC]; exact h3 k hk
theorem XsAt.frozen (h : XsAt w b x) (k : Nat) : w.frozen? ⟨b, k, none⟩ = false := by
  obtain ⟨C, hC, -⟩ := h
  simp [World.frozen?, hC]
theorem XsAt.congr (h : XsAt w b x) (hl : x.length = y.length) (he : ∀ k, k < x.length → x.getD k 0 = y.getD k 0) : XsAt w b y := by
  obtain ⟨C, hC, h2, h3⟩ := h
  exact ⟨C, hC, by omega, fun k hk => by rw [← he k (by omega)]; exact h3 k (by omega)⟩
theorem XsAt.set (h : XsAt w b x) (hk : k < x.length) (v : Int) : XsAt (w.setCell ⟨b, k, none⟩ (.int .i64 v)) b (x.set k v) := by
  obtain ⟨C, hC, h2, h3⟩ := h
  refine ⟨C.setIfInBounds k (.int .i64 v), by simp [World.setCell, Array.getElem?_modify, hC], by simpa using h2, fun j hj => ?_⟩
  have hj' : j < x.length := by simpa using hj
  rw [getD_set]
  by_cases e : k = j
  · subst e
    rw [if_pos ⟨rfl, hk⟩]
    have : k < C.size := by omega
    simp [this]
  · rw [if_neg (fun hh => e hh.1), Array.getElem?_setIfInBounds_ne e]
    exact h3 j hj'
theorem XsAt.ints (h : XsAt w b x) {n cap : Nat} (hn : x.length = n) (hc : n ≤ cap) (hm : cap ≤ 9223372036854775807) (hf : Fits x) : IntsAt w (.slice (some ⟨b, 0, none⟩) n cap) x := by
  refine ⟨⟨_, n, cap, rfl, by simp [_root_.Go.Proofs.ints, hn], hc, by simpa [maxLen] using hm, fun _ => ⟨b, 0, rfl, fun j v hv => ?_⟩⟩, hf⟩
  have hj : j < x.length := by have := (List.getElem?_eq_some_iff.1 hv).1; simpa [_root_.Go.Proofs.ints] using this
  rw [Nat.zero_add, h.cell hj, ← hv]
  simp [_root_.Go.Proofs.ints, hj, List.getD_eq_getElem?_getD]
theorem XsAt.of_alloc (w : World) (x : List Int) : XsAt (w.alloc (.cells (x.map (Value.int .i64)).toArray 3)) w.heap.size x :=
  ⟨_, heap_alloc_new w _, by simp, fun k hk => by simp [hk, List.getD_eq_getElem?_getD]⟩
end

/-- p reads as P by blocks below n₀ -/
def PcB (n₀ : Nat) (w : World) (v0 v1 v2 : Value) (P : PcD) : Prop := ∀ w' : World, (∀ k, k < n₀ → w'.heap[k]? = w.heap[k]?) → PcAt w' v0 v1 v2 P
theorem PcB.at_ {n₀ : Nat} {w : World} {v0 v1 v2 : Value} {P : PcD} (h : PcB n₀ w v0 v1 v2 P) : PcAt w v0 v1 v2 P := h w fun _ _ => rfl
theorem PcB.keep {n₀ : Nat} {w w' : World} {v0 v1 v2 : Value} {P : PcD} (h : PcB n₀ w v0 v1 v2 P) (hk : ∀ k, k < n₀ → w'.heap[k]? = w.heap[k]?) : PcB n₀ w' v0 v1 v2 P := fun w'' hw => h w'' fun k hk' => (hw k hk').trans (hk k hk')
theorem PcB.grown {n₀ bx : Nat} {w w' : World} {v0 v1 v2 : Value} {P : PcD} (h : PcB n₀ w v0 v1 v2 P) (hg : w.grownBy w' (some bx)) (hb : n₀ ≤ bx) (hx : bx < w.heap.size) : PcB n₀ w' v0 v1 v2 P :=
  h.keep fun k hk => hg.block k (by omega) (fun e => by cases e; omega)
theorem PcB.below {n₀ m : Nat} {w w' : World} {v0 v1 v2 : Value} {P : PcD} (h : PcB n₀ w v0 v1 v2 P) (hb : Below m w w') (hm : n₀ ≤ m) : PcB n₀ w' v0 v1 v2 P :=
  h.keep fun k hk => hb.block k (by omega)
theorem PcAt.pcB {w : World} {v0 v1 v2 : Value} {P : PcD} (h : PcAt w v0 v1 v2 P) : PcB w.heap.size w v0 v1 v2 P := fun _ hw => h.keep hw

section
variable {ops : Array Oper} {rest : List Oper} {o : Oper} {a : Act} {w w' : World} {Q : Exit → Act → World → Prop} {v : Value}
theorem wpList_sel (s : Nat) {op : Op} {t : TypeId} {p : String} {af : Array Edge} {g : Option (Nat × Bool)} (h : wpList Try.prog ops Q (⟨some s, op, t, p, af, g⟩ :: rest) a w) : wpList Try.prog ops Q (⟨some s, op, t, p, af, g⟩ :: rest) a w := h
theorem wpList_val (hg : o.guard = none) (hrun : (execOp a.eval o).run Try.prog w = .ok (.value v) w') (h : wpList Try.prog ops Q rest (a.put o.dst v) w') : wpList Try.prog ops Q (o :: rest) a w :=
  wpList_plain hg fun _ hK => by
    unfold Oper.wp
    rw [hrun]
    exact hK _ _ h
end

theorem info3p : ∃ i, Try.prog.info? 3 = some i ∧ i.zero = some (.int .i64 0) ∧ i.size = 1 ∧ i.bytes = 8 := by
  have h : (Try.prog.info? 3).map (fun i => (i.zero, i.size, i.bytes)) = some (some (.int .i64 0), 1, 8) := by kernel_rfl
  cases hq : Try.prog.info? 3 with
  | none => simp [hq] at h
  | some i => simp [hq] at h; exact ⟨i, rfl, h⟩
theorem src_ints {w : World} {v : Value} {y : List Int} (h : IntsAt w v y) : Src Try.prog 1 22 v y.length (ints y) w := by
  obtain ⟨⟨A, n, cap, rfl, hn, hc, hm, hr⟩, -⟩ := h
  have hl : n = y.length := by simpa [ints] using hn
  subst hl
  rcases Nat.eq_zero_or_pos y.length with h0 | h0
  · obtain rfl : y = [] := List.length_eq_zero_iff.1 h0
    cases A with
    | none => exact Src.ofNil w Try.underlying22 cap
    | some a => exact Src.ofSlice w Try.underlying22 a 0 cap [] rfl (fun j u hu => by simp at hu) (fun u hu => by cases hu)
  · obtain ⟨b, off, rfl, hrow⟩ := hr h0
    exact Src.ofSlice w Try.underlying22 _ _ cap (ints y) (by simp [ints]) (fun j u hu => by rw [Addr.add_lit]; exact hrow j u hu) (fun u hu => by obtain ⟨x, -, rfl⟩ := List.mem_map.1 hu; rfl)

/-- append([]int{}, y...): the copy lies in a block of its own -/
theorem run_copy {w : World} {b : Nat} {v : Value} {y : List Int} (hb : w.heap[b]? = some (.cells #[] 3 (0, 0))) (h : IntsAt w v y) (hl : y.length ≤ 1000) :
    ∃ (b' cap : Nat) (w' : World), (Builtin.append_ #[22, 22] 22 #[.slice (some ⟨b, 0, none⟩) 0 0, v]).run Try.prog w = .ok (.slice (some ⟨b', 0, none⟩) y.length cap) w' ∧
      Below w.heap.size w w' ∧ XsAt w' b' y ∧ y.length ≤ cap ∧ cap ≤ 9223372036854775807 ∧ (b' = b ∨ b' = w.heap.size) := by
  obtain ⟨i, hi, hz, hs, hby⟩ := info3p
  have hsrc := src_ints h
  rcases Nat.eq_zero_or_pos y.length with h0 | h0
  · obtain rfl : y = [] := List.length_eq_zero_iff.1 h0
    have := run_append_room_src (P := Try.prog) w 22 22 22 3 i Try.underlying22 hi b 0 0 0 v 0 [] (by rw [hs]; exact hsrc) (Nat.le_refl _) (fun j hj => absurd hj (by simp)) (fun j hj => absurd hj (by simp))
    exact ⟨b, 0, w, this, Below.refl _ _, ⟨_, hb, Nat.zero_le _, fun k hk => absurd hk (by simp)⟩, Nat.le_refl _, by simp, .inl rfl⟩
  · have hold : (Builtin.firstCells i.size 0 (.slice (some ⟨b, 0, none⟩) 0 0)).run Try.prog w.drew = .ok ([] : List Value).toArray w.drew := by
      rw [hs]
      exact run_firstCells_some w.drew 1 0 ⟨b, 0, none⟩ 0 0 [] rfl (fun j u hu => by simp at hu)
    have hg := run_append_grow_src (P := Try.prog) w 22 22 22 3 i (.int .i64 0) Try.underlying22 hi hz (some ⟨b, 0, none⟩) 0 0 [] hold v y.length (ints y) (by rw [hs]; exact hsrc) (by omega) (by omega) (growslice_fits (by omega) (by rw [hby]; omega))
    simp only [Nat.zero_add, List.nil_append] at hg
    refine ⟨w.heap.size, _, _, hg, ⟨rfl, rfl, rfl, by simp, fun k hk => (Below.heap_alloc w.drew _ k hk)⟩, ⟨_, heap_alloc_new w.drew _, by simp [ints], fun k hk => ?_⟩, grownCap_ge w _ _ _, ?_, .inr rfl⟩
    · rw [Array.getElem?_append_left (by simpa [ints] using hk)]
      simp [ints, hk, List.getD_eq_getElem?_getD]
    · have := grownCap_le_maxLen w y.length 0 3 (by unfold maxLen; omega)
      simpa [maxLen] using this
end Go.Proofs
