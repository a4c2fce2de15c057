import Derived.Test.YtnhoiompdjabbaaColl
import Derived.Test.YtnhoiompdjabbaaT3
namespace Go.Proofs
open Go.RowKit Go.Proofs.Pc

theorem zinfo86 : (Try.prog.info? 86).map (fun i => (i.zero, i.size)) = some (some (.agg (Array.replicate 1885 (.int .i64 0))), 1885) := by kernel_rfl
theorem zero86 (w : World) : (zeroValue 86).run Try.prog w = .ok (.agg (Array.replicate 1885 (.int .i64 0))) w := (zero_of_info zinfo86).1 w
theorem sz3 (w : World) : (sizeOf 3).run Try.prog w = .ok 1 w := by kernel_rfl
theorem sz82 (w : World) : (sizeOf 82).run Try.prog w = .ok 12 w := by kernel_rfl
theorem sz83 (w : World) : (sizeOf 83).run Try.prog w = .ok 144 w := by kernel_rfl
theorem sz84 (w : World) : (sizeOf 84).run Try.prog w = .ok 1728 w := by kernel_rfl
theorem build86 (n : Int) (w : World) : (Instr.build 86 #[(0, .int .i64 n)]).run Try.prog w = .ok (.agg ((Array.replicate 1885 (.int .i64 0)).setIfInBounds 0 (.int .i64 n))) w := by
  unfold Instr.build
  rw [Sem.run_bind, zero86]
  simp only [Result.andThen_ok, Value.cells]
  rw [Sem.run_bind, run_underlying Try.underlying86]
  simp [Instr.fill, Value.cells]

/-- the zero rules with n -/
theorem zc86 : Try.zeroCells86 = Array.replicate 1885 (.int .i64 0) := by kernel_rfl

structure Rul (w : World) (br : Nat) (n : Int) (o : List Int) (dp : Nat → List Int) (dc : Nat → Nat → List Int) : Prop where
  blk : ∃ C : Array Value, w.heap[br]? = some (.cells C 86 (0, 0)) ∧ C.size = 1885
  n : w.cell? ⟨br, 0, none⟩ = some (.int .i64 n)
  ord : w.rangeAt br 1 (vec o)
  pow : ∀ i, i < 12 → w.rangeAt br (13 + i * 12) (vec (dp i))
  cj : ∀ j, j < 12 → ∀ i, i < 12 → w.rangeAt br (157 + j * 144 + i * 12) (vec (dc j i))

theorem Rul.there {w : World} {br : Nat} {n : Int} {o : List Int} {dp : Nat → List Int} {dc : Nat → Nat → List Int} (h : Rul w br n o dp dc) (k : Nat) (hk : k + 12 ≤ 1885) : w.there br k 12 := by
  obtain ⟨C, hC, hs⟩ := h.blk
  intro j hj
  refine ⟨?_, frozen_of_row w br _ _ _ hC⟩
  rw [cell_of_row w br _ _ _ _ hC]
  have : k + j < C.size := by omega
  simp [this]

theorem heap_setCells (b : Nat) (t : TypeId) (N : Nat) : ∀ (vs : List Value) (o : Nat) (w : World), (∃ C : Array Value, w.heap[b]? = some (.cells C t (0, 0)) ∧ C.size = N) → ∃ C : Array Value, (w.setCells b o vs).heap[b]? = some (.cells C t (0, 0)) ∧ C.size = N
  | [], _, _, h => h
  | v :: r, o, w, ⟨C, hC, hs⟩ => by
    rw [World.setCells]
    refine heap_setCells b t N r (o + 1) _ ⟨C.setIfInBounds o v, ?_, by simpa using hs⟩
    simp [World.setCell, Array.getElem?_modify, hC]

theorem rangeAt_fill {w : World} {b o : Nat} {xs : List Int} (h : w.rangeAt b o (vec [])) (hl : xs.length ≤ 12) : (w.setCells b o (ints xs)).rangeAt b o (vec xs) := by
  intro j v hv
  have hj : j < 12 := by have := (List.getElem?_eq_some_iff.1 hv).1; rwa [length_vec] at this
  rw [getElem?_vec _ hj] at hv
  injection hv with hv
  subst hv
  have hli : (ints xs).length = xs.length := by simp [ints]
  rcases Nat.lt_or_ge j xs.length with h1 | h1
  · rw [World.cell?_setCells_in b (ints xs) o w (fun i hi => by rw [h i _ (getElem?_vec _ (by omega))]; rfl) j (by omega)]
    simp [ints, List.getD_eq_getElem?_getD, List.getElem?_eq_getElem h1]
  · rw [World.cell?_setCells_out b (ints xs) o w ⟨b, o + j, none⟩ (fun _ _ => .inr (by show o + _ ≤ o + j; omega)), h j _ (getElem?_vec _ hj)]
    simp [List.getD_eq_getElem?_getD, List.getElem?_eq_none h1]

section
variable {w : World} {br : Nat} {n : Int} {o xs : List Int} {dp : Nat → List Int} {dc : Nat → Nat → List Int}

theorem len_ints (xs : List Int) : (ints xs).length = xs.length := by simp [ints]

theorem Rul.setOrd (h : Rul w br n [] dp dc) (hl : xs.length ≤ 12) : Rul (w.setCells br 1 (ints xs)) br n xs dp dc :=
  ⟨heap_setCells br 86 1885 _ _ _ h.blk, (World.cell?_setCells_out br _ 1 w ⟨br, 0, none⟩ (fun _ _ => .inl (by show 0 < 1; omega))).trans h.n, rangeAt_fill h.ord hl,
    fun i hi => World.rangeAt_setCells_apart (h.pow i hi) _ _ _ (by rw [len_ints, length_vec]; omega), fun j hj i hi => World.rangeAt_setCells_apart (h.cj j hj i hi) _ _ _ (by rw [len_ints, length_vec]; omega)⟩
theorem Rul.setPow {r : Nat} (h : Rul w br n o dp dc) (hr : r < 12) (h0 : dp r = []) (hl : xs.length ≤ 12) : Rul (w.setCells br (13 + r * 12) (ints xs)) br n o (fun i => if i = r then xs else dp i) dc :=
  ⟨heap_setCells br 86 1885 _ _ _ h.blk, (World.cell?_setCells_out br _ _ w ⟨br, 0, none⟩ (fun _ _ => .inl (by show 0 < _; omega))).trans h.n, World.rangeAt_setCells_apart h.ord _ _ _ (by rw [len_ints, length_vec]; omega),
    fun i hi => by
      by_cases e : i = r
      · subst e; rw [if_pos rfl]; exact rangeAt_fill (by rw [← h0]; exact h.pow i hi) hl
      · rw [if_neg e]; exact World.rangeAt_setCells_apart (h.pow i hi) _ _ _ (by rw [len_ints, length_vec]; omega),
    fun j hj i hi => World.rangeAt_setCells_apart (h.cj j hj i hi) _ _ _ (by rw [len_ints, length_vec]; omega)⟩
theorem Rul.setCj {r q : Nat} (h : Rul w br n o dp dc) (hr : r < 12) (hq : q < 12) (h0 : dc r q = []) (hl : xs.length ≤ 12) : Rul (w.setCells br (157 + r * 144 + q * 12) (ints xs)) br n o dp (fun j i => if j = r ∧ i = q then xs else dc j i) :=
  ⟨heap_setCells br 86 1885 _ _ _ h.blk, (World.cell?_setCells_out br _ _ w ⟨br, 0, none⟩ (fun _ _ => .inl (by show 0 < _; omega))).trans h.n, World.rangeAt_setCells_apart h.ord _ _ _ (by rw [len_ints, length_vec]; omega),
    fun i hi => World.rangeAt_setCells_apart (h.pow i hi) _ _ _ (by rw [len_ints, length_vec]; omega),
    fun j hj i hi => by
      by_cases e : j = r ∧ i = q
      · obtain ⟨rfl, rfl⟩ := e; simp only [and_self, if_true]; exact rangeAt_fill (by rw [← h0]; exact h.cj j hj i hi) hl
      · rw [if_neg e]; exact World.rangeAt_setCells_apart (h.cj j hj i hi) _ _ _ (by rw [len_ints, length_vec]; omega)⟩
theorem Rul.block {w' : World} (h : Rul w br n o dp dc) (hk : w'.heap[br]? = w.heap[br]?) : Rul w' br n o dp dc :=
  ⟨by rw [hk]; exact h.blk, (World.cell?_of_block (a := ⟨br, 0, none⟩) hk).trans h.n, rangeAt_keep h.ord hk, fun i hi => rangeAt_keep (h.pow i hi) hk, fun j hj i hi => rangeAt_keep (h.cj j hj i hi) hk⟩
theorem Rul.congr {dp' : Nat → List Int} {dc' : Nat → Nat → List Int} (h : Rul w br n o dp dc) (h1 : ∀ i, i < 12 → dp i = dp' i) (h2 : ∀ j i, j < 12 → i < 12 → dc j i = dc' j i) : Rul w br n o dp' dc' :=
  ⟨h.blk, h.n, h.ord, fun i hi => by rw [← h1 i hi]; exact h.pow i hi, fun j hj i hi => by rw [← h2 j i hj hi]; exact h.cj j hj i hi⟩
theorem Rul.new (w : World) (n : Int) : Rul (w.alloc (.cells (Try.zeroCells86.setIfInBounds 0 (.int .i64 n)) 86)) w.heap.size n [] (fun _ => []) (fun _ _ => []) := by
  have hb := heap_alloc_new w (.cells (Try.zeroCells86.setIfInBounds 0 (.int .i64 n)) 86)
  have hs : (Try.zeroCells86.setIfInBounds 0 (.int .i64 n)).size = 1885 := by simp [zc86]
  have hz : ∀ k, 0 < k → k + 12 ≤ 1885 → (w.alloc (.cells (Try.zeroCells86.setIfInBounds 0 (.int .i64 n)) 86)).rangeAt w.heap.size k (vec []) := fun k h0 hk j v hv => by
    have hj : j < 12 := by have := (List.getElem?_eq_some_iff.1 hv).1; rwa [length_vec] at this
    rw [getElem?_vec _ hj] at hv
    rw [cell_of_row _ _ _ _ _ _ hb, ← hv]
    have h1 : (0 : Nat) ≠ k + j := by omega
    have h2 : k + j < 1885 := by omega
    rw [zc86, Array.getElem?_setIfInBounds_ne h1, Array.getElem?_replicate, if_pos h2]
    rfl
  refine ⟨⟨Try.zeroCells86.setIfInBounds 0 (.int .i64 n), hb, hs⟩, ?_, hz 1 (by omega) (by omega), fun i hi => hz _ (by omega) (by omega), fun j hj i hi => hz _ (by omega) (by omega)⟩
  rw [cell_of_row _ _ _ _ _ _ hb]
  rw [zc86]
  simp
end

theorem setCells_drewN (b q : Nat) : ∀ (vs : List Value) (o : Nat) (w : World), (w.drewN q).setCells b o vs = (w.setCells b o vs).drewN q
  | [], _, _ => rfl
  | v :: r, o, w => by rw [World.setCells, World.setCells]; exact setCells_drewN b q r (o + 1) (w.setCell ⟨b, o, none⟩ v)
theorem setCells_drew (b : Nat) : ∀ (vs : List Value) (o : Nat) (w : World), w.drew.setCells b o vs = (w.setCells b o vs).drew
  | [], _, _ => rfl
  | v :: r, o, w => by rw [World.setCells, World.setCells]; exact setCells_drew b r (o + 1) (w.setCell ⟨b, o, none⟩ v)

/-- 'copy(arr[:], l)' -/
theorem copy12 {w : World} {b o : Nat} {vs : Value} {xs : List Int} (hs : IntsAt w vs xs) (hl : xs.length ≤ 12) (hth : w.there b o 12) (ty : TypeId) :
    (Builtin.copy_ #[22, 22] ty #[.slice (some ⟨b, o, none⟩) 12 12, vs]).run Try.prog w = .ok (.int .i64 xs.length) (w.setCells b o (ints xs)) := by
  have h3 : (Try.prog.info? 3).map (·.size) = some 1 := by kernel_rfl
  obtain ⟨A, cap, rfl, h1, h2, h4⟩ := hs.open_
  by_cases h0 : xs.length = 0
  · have : xs = [] := List.eq_nil_of_length_eq_zero h0
    subst this
    exact run_copy_none (P := Try.prog) w 22 22 ty 3 _ _ _ _ _ _ Try.underlying22 h3 (by show Nat.min 0 12 = 0; rfl)
  · obtain ⟨b', o', rfl, hc⟩ := h4 (by omega)
    have := run_copy_cells (P := Try.prog) w 22 22 ty 3 b o 12 12 ⟨b', o', none⟩ xs.length cap (ints xs) Try.underlying22 h3 (by rw [len_ints]; exact (Nat.min_eq_left hl).symm)
      (fun j v hv => by
        have hj : j < xs.length := by have := (List.getElem?_eq_some_iff.1 hv).1; rwa [len_ints] at this
        rw [Addr.add_mid, hc j hj, ← hv]
        simp [ints, List.getD_eq_getElem?_getD, List.getElem?_eq_getElem hj])
      (fun j hj => (hth j (by rw [len_ints] at hj; omega)).1) (fun j hj => (hth j (by rw [len_ints] at hj; omega)).2) (fun v hv => by simp [ints] at hv; obtain ⟨k, _, rfl⟩ := hv; rfl)
    rw [this, len_ints]
    rfl
end Go.Proofs
