/- (smith.columns).add and swap: the rows of two matrices, one after the other; (smith.columns).swap and (smith.rows).swap; slices.IndexFunc and slices.ContainsFunc at a list of numbers; smith.Check, (smith.work).check; (smith.work).check; many and entry of (smith.rows) and (smith.columns). -/
import Derived.Test.YthfachbkcmifbaaGreatGrCS3
import Derived.Deep.RegionHeld3
namespace Go.Proofs
open Go.RowKit Go.Shelf Go.Proofs.Sm
/-- the first c rows of m', then those of m -/
def mixA (m m' : Mat) (c : Nat) : Mat := m'.take c ++ m.drop c
theorem mixA_zero (m m' : Mat) : mixA m m' 0 = m := by simp [mixA]
theorem mixA_full {m m' : Mat} {c : Nat} (h : m.length ≤ c) (h2 : m'.length ≤ c) : mixA m m' c = m' := by simp [mixA, List.drop_eq_nil_of_le h, List.take_of_length_le h2]
theorem mixA_length {m m' : Mat} (h : m'.length = m.length) (c : Nat) : (mixA m m' c).length = m.length := by simp [mixA]; omega
theorem mixA_getD {m m' : Mat} (h : m'.length = m.length) (c i : Nat) : (mixA m m' c).getD i [] = if i < c then m'.getD i [] else m.getD i [] := by
  simp only [mixA, List.getD_eq_getElem?_getD, List.getElem?_append, List.getElem?_take, List.getElem?_drop, List.length_take]
  rcases Nat.lt_or_ge i m'.length with h1 | h1
  · by_cases h2 : i < c
    · rw [if_pos (by omega), if_pos h2, if_pos h2]
    · rw [if_neg (by omega), if_neg h2, show c + (i - min c m'.length) = i by omega]
  · rw [if_neg (by omega), List.getElem?_eq_none (by omega : m.length ≤ c + (i - min c m'.length)), List.getElem?_eq_none h1, List.getElem?_eq_none (by omega : m.length ≤ i)]
    split <;> rfl
theorem mixA_set {m m' : Mat} (h : m'.length = m.length) {c : Nat} {z : List Int} (hz : z = m'.getD c []) : (mixA m m' c).set c z = mixA m m' (c + 1) := by
  refine getD_ext (d := []) (by rw [List.length_set, mixA_length h, mixA_length h]) fun i hi => ?_
  rw [List.length_set, mixA_length h] at hi
  rw [getD_set_, mixA_getD h, mixA_getD h, mixA_length h]
  by_cases e : c = i
  · subst e; rw [if_pos ⟨rfl, by omega⟩, if_pos (by omega), hz]
  · rw [if_neg (fun hh => e hh.1)]
    by_cases e2 : i < c
    · rw [if_pos e2, if_pos (by omega)]
    · rw [if_neg e2, if_neg (by omega)]
theorem mixA_ent {m m' : Mat} (h : m'.length = m.length) (c j : Nat) : ent (mixA m m' c) c j = ent m c j := by
  unfold ent; rw [mixA_getD h, if_neg (by omega)]
theorem mixA_rect {m m' : Mat} {r n : Nat} (h : Rect m r n) (h' : Rect m' r n) (c : Nat) : Rect (mixA m m' c) r n :=
  rect_of (by rw [mixA_length (by rw [h.1, h'.1]), h.1]) fun i hi => by
    rw [mixA_getD (by rw [h.1, h'.1])]
    split
    · exact rect_row h' hi
    · exact rect_row h hi
/-- a and v with the first q of their rows, a's ahead of v's, as in s' -/
def twoTo (s s' : S) (r q : Nat) : S := { s with a := mixA s.a s'.a q, v := mixA s.v s'.v (q - r) }
/-- matrix and row of the q-th row -/
def ofTwo (r q : Nat) : Nat × Nat := if q < r then (0, q) else (2, q - r)
theorem ofTwo_lt (r q : Nat) : (ofTwo r q).1 < 3 := by unfold ofTwo; split <;> simp
section
variable {s s' : S} {r n q : Nat}
theorem twoTo_zero (s s' : S) (r : Nat) : twoTo s s' r 0 = s := by simp [twoTo, mixA_zero]
theorem twoTo_full (h : Shape r n s) (h' : Shape r n s') (hu : s'.u = s.u) (ht : s'.t = s.t) : twoTo s s' r (r + n) = s' := by
  unfold twoTo
  rw [mixA_full (by rw [h.ra.1]; omega) (by rw [h'.ra.1]; omega), mixA_full (by rw [h.rv.1]; omega) (by rw [h'.rv.1]; omega), ← hu, ← ht]
theorem twoTo_len (h : Shape r n s) (h' : Shape r n s') (hq : q < r + n) : ((twoTo s s' r q).mat (ofTwo r q).1).length = (if q < r then r else n) ∧ (ofTwo r q).2 < (if q < r then r else n) := by
  unfold ofTwo
  split
  · exact ⟨(mixA_rect h.ra h'.ra q).1, by assumption⟩
  · exact ⟨(mixA_rect h.rv h'.rv (q - r)).1, by omega⟩
theorem twoTo_row (h : Shape r n s) (h' : Shape r n s') (hq : q < r + n) : (((twoTo s s' r q).mat (ofTwo r q).1).getD (ofTwo r q).2 []).length = n := by
  unfold ofTwo
  split
  · exact rect_row (mixA_rect h.ra h'.ra q) (by assumption)
  · exact rect_row (mixA_rect h.rv h'.rv (q - r)) (by omega)
theorem twoTo_ent (h : Shape r n s) (h' : Shape r n s') (j : Nat) : ent ((twoTo s s' r q).mat (ofTwo r q).1) (ofTwo r q).2 j = ent (s.mat (ofTwo r q).1) (ofTwo r q).2 j := by
  unfold ofTwo
  split
  · exact mixA_ent (by rw [h.ra.1, h'.ra.1]) q j
  · exact mixA_ent (by rw [h.rv.1, h'.rv.1]) (q - r) j
theorem twoTo_mat (h : Shape r n s) (h' : Shape r n s') : ((twoTo s s' r q).mat (ofTwo r q).1).getD (ofTwo r q).2 [] = (s.mat (ofTwo r q).1).getD (ofTwo r q).2 [] := by
  unfold ofTwo
  split
  · exact (mixA_getD (by rw [h.ra.1, h'.ra.1]) q q).trans (if_neg (by omega))
  · exact (mixA_getD (by rw [h.rv.1, h'.rv.1]) (q - r) (q - r)).trans (if_neg (by omega))
/-- the q-th row is written whole -/
theorem twoTo_set (h : Shape r n s) (h' : Shape r n s') {z : List Int} (hz : z = (s'.mat (ofTwo r q).1).getD (ofTwo r q).2 []) : (twoTo s s' r q).setMat (ofTwo r q).1 (((twoTo s s' r q).mat (ofTwo r q).1).set (ofTwo r q).2 z) = twoTo s s' r (q + 1) := by
  unfold ofTwo at *
  by_cases e : q < r
  · rw [if_pos e] at hz ⊢
    have h1 := mixA_set (m := s.a) (m' := s'.a) (c := q) (by rw [h.ra.1, h'.ra.1]) hz
    show S.mk ((mixA s.a s'.a q).set q z) s.u (mixA s.v s'.v (q - r)) s.t = S.mk (mixA s.a s'.a (q + 1)) s.u (mixA s.v s'.v (q + 1 - r)) s.t
    rw [h1, show q - r = 0 by omega, show q + 1 - r = 0 by omega]
  · rw [if_neg e] at hz ⊢
    have h1 := mixA_set (m := s.v) (m' := s'.v) (c := q - r) (by rw [h.rv.1, h'.rv.1]) hz
    show S.mk (mixA s.a s'.a q) s.u ((mixA s.v s'.v (q - r)).set (q - r) z) s.t = S.mk (mixA s.a s'.a (q + 1)) s.u (mixA s.v s'.v (q + 1 - r)) s.t
    rw [h1, show q + 1 - r = q - r + 1 by omega, mixA_full (m := s.a) (by rw [h.ra.1]; omega) (by rw [h'.ra.1]; omega), mixA_full (m := s.a) (by rw [h.ra.1]; omega) (by rw [h'.ra.1]; omega)]
end
/-- the rows of matrix k as values -/
def rowsV (s : S) (bl cs : Nat → Nat → Nat) (k : Nat) : List Value := (List.range (s.mat k).length).map fun i => .slice (some ⟨bl k i, 0, none⟩) ((s.mat k).getD i []).length (cs k i)
theorem rowsV_length (s : S) (bl cs : Nat → Nat → Nat) (k : Nat) : (rowsV s bl cs k).length = (s.mat k).length := by simp [rowsV]
section
variable {T b base : Nat} {w w' : World} {s : S} {x : Value} {vs : Nat → Value} {bl cs : Nat → Nat → Nat}
theorem WkM.slv (h : WkM T b base w s x vs bl cs) {k : Nat} (hk : k < 3) : SlV w (vs k) (rowsV s bl cs k) := ⟨sl_of_owns (h.out k hk), fun y hy => by
  simp only [rowsV, List.mem_map] at hy
  obtain ⟨i, -, rfl⟩ := hy
  rfl⟩
theorem owns_cells {base e n : Nat} {v : Value} {xs : List Value} (h : w.ownsRow base e 1 v n xs) (hn : 0 < n) : ∃ g c, v = .slice (some ⟨g, 0, none⟩) n c ∧ base ≤ g ∧ ∀ i, i < n → w.cell? ⟨g, i, none⟩ = xs[i]? := by
  obtain ⟨hl, ho⟩ := h
  rcases ho with ⟨-, h0⟩ | ⟨g, cap, cur, e, hb, hC, h1, hm, hs, ht⟩
  · omega
  · refine ⟨g, cap, e, hb, fun i hi => ?_⟩
    rw [cell_of_row _ _ _ _ _ _ hC, ← ht, List.getElem?_take, if_pos (by omega)]
    simp
theorem owns_other {base e n : Nat} (he : e ≠ 3) {v : Value} {xs : List Value} (h : w.ownsRow base e 1 v n xs) {b' k : Nat} {D : Array Value} {u : Value} (hb : w.heap[b']? = some (.cells D 3 (0, 0))) : (w.setCell ⟨b', k, none⟩ u).ownsRow base e 1 v n xs :=
  owns_keep h fun r hr => Below.heap_setCell w ⟨b', k, none⟩ u r fun e2 => by
    obtain ⟨-, C, hC⟩ := owns_block h r hr
    have e3 : r = b' := e2
    rw [e3, hb] at hC
    injection hC with h5
    injection h5 with _ h6 _
    exact he h6.symm
theorem rowsV_two {r n : Nat} (hs : Shape r n s) {q : Nat} (hq : q < r + n) : (rowsV s bl cs 0 ++ rowsV s bl cs 2)[q]? = some (.slice (some ⟨bl (ofTwo r q).1 (ofTwo r q).2, 0, none⟩) n (cs (ofTwo r q).1 (ofTwo r q).2)) := by
  unfold ofTwo
  have e0 : (s.mat 0).length = r := hs.ra.1
  have e2 : (s.mat 2).length = n := hs.rv.1
  split
  · rename_i h
    have h1 : ((s.mat 0).getD q []).length = n := rect_row hs.ra h
    rw [List.getElem?_append_left (by rw [rowsV_length, e0]; exact h)]
    simp only [rowsV, List.getElem?_map, e0, List.getElem?_range h, Option.map_some, h1]
  · rename_i h
    have h1 : ((s.mat 2).getD (q - r) []).length = n := rect_row hs.rv (by omega)
    rw [List.getElem?_append_right (by rw [rowsV_length, e0]; omega), rowsV_length, e0]
    simp only [rowsV, List.getElem?_map, e2, List.getElem?_range (show q - r < n by omega), Option.map_some, h1]
/-- slices.Concat of a and v -/
theorem cat_two {r n B : Nat} (hr : r ≤ 100000) (hn : n ≤ 100000) (hs : Shape r n s) (h : WkM T b base w s x vs bl cs) (hb : Below w.heap.size w w') (hB : w'.heap[B]? = some (.cells #[vs 0, vs 2] 40 (0, 0))) :
    Calls Tryz.prog 85 #[.slice (some ⟨B, 0, none⟩) 2 2] w' (ValsPost w'.heap.size (rowsV s bl cs 0 ++ rowsV s bl cs 2) w') := by
  have hcat := concat90_any w' (.slice (some ⟨B, 0, none⟩) 2 2) [rowsV s bl cs 0, rowsV s bl cs 2]
    ⟨[vs 0, vs 2], ⟨_, 2, 2, rfl, rfl, Nat.le_refl _, by simp [maxLen], fun _ => ⟨B, 0, rfl, fun j z hz => by
      rw [cell_of_row _ _ _ _ _ _ hB, Nat.zero_add]
      simpa using hz⟩⟩, rfl, fun i hi => by
      have h2 : i = 0 ∨ i = 1 := by simp at hi; omega
      rcases h2 with rfl | rfl
      · exact ⟨vs 0, rfl, (h.slv (by omega)).below hb⟩
      · exact ⟨vs 2, rfl, (h.slv (by omega)).below hb⟩⟩
    (by simp [catV, rowsV_length, show (s.mat 0).length = r from hs.ra.1, show (s.mat 2).length = n from hs.rv.1]; omega)
  have e : catV [rowsV s bl cs 0, rowsV s bl cs 2] ([rowsV s bl cs 0, rowsV s bl cs 2] : List (List Value)).length = rowsV s bl cs 0 ++ rowsV s bl cs 2 := by simp [catV]
  rw [e] at hcat
  exact hcat
theorem cat_two_len {r n : Nat} (hs : Shape r n s) : (rowsV s bl cs 0 ++ rowsV s bl cs 2).length = r + n := by
  rw [List.length_append, rowsV_length, rowsV_length, show (s.mat 0).length = r from hs.ra.1, show (s.mat 2).length = n from hs.rv.1]
end
theorem owns_at {w : World} {base e n g c : Nat} {xs : List Value} (h : w.ownsRow base e 1 (.slice (some ⟨g, 0, none⟩) n c) n xs) {i : Nat} (hi : i < n) : w.cell? ⟨g, i, none⟩ = xs[i]? := by
  obtain ⟨g', c', e, -, hc⟩ := owns_cells h (by omega)
  obtain rfl : g = g' := by injection e with e1; injection e1 with e2; injection e2
  exact hc i hi
theorem heap_alloc_one (w : World) (o o' : Obj) : ((w.alloc o).alloc o').drew.heap[w.heap.size]? = some o :=
  ((Below.refl (w.heap.size + 1) (w.alloc o)).alloc (by simp) o').drew.block w.heap.size (by omega) |>.trans (heap_alloc_new w o)
/-- column k, x times, may be added to column j -/
def FitC (m : Mat) (j k : Nat) (x : Int) : Prop := ∀ i, In64 (ent m i j) ∧ In64 (ent m i k) ∧ In64 (x * ent m i k) ∧ In64 (ent m i j + x * ent m i k)
theorem addC_row {m : Mat} (j k : Nat) (x : Int) (i : Nat) : (Sm.addC m j k x).getD i [] = (m.getD i []).set j (ent m i j + x * ent m i k) := by
  unfold Sm.addC ent
  rw [getD_map_ (d := []) (h := by simp)]
theorem addC_mat (s : S) (j k : Nat) (x : Int) {c : Nat} (hc : c = 0 ∨ c = 2) : (s.addC j k x).mat c = Sm.addC (s.mat c) j k x := by
  rcases hc with rfl | rfl <;> rfl
theorem ofTwo_or (r q : Nat) : (ofTwo r q).1 = 0 ∨ (ofTwo r q).1 = 2 := by unfold ofTwo; split <;> simp
set_option maxRecDepth 100000 in
set_option maxHeartbeats 1000000 in
theorem cadd126_any (base b j k r n : Nat) (q : Int) (w : World) (s : S) (x : Value) (hs : Shape r n s) (hj : j < n) (hk : k < n) (hr : r ≤ 100000) (hn : n ≤ 100000) (hS : Wk 62 b base w s x) (hbw : base ≤ w.heap.size) (hfa : FitC s.a j k q) (hfv : FitC s.v j k q) :
    Calls Tryz.prog 120 #[.agg #[.pointer (some ⟨b, 0, none⟩)], .int .i64 (j : Int), .int .i64 (k : Int), .int .i64 q] w fun e w' => e = .returned (.tuple #[]) ∧ Wk 62 b base w' (s.addC j k q) x ∧ Ch base w w' := by
  obtain ⟨vs, bl, cs, hM⟩ := hS
  obtain ⟨c0, c1, c2, c3, c4⟩ := hM.cells
  have hbl := hM.lt
  obtain ⟨A0, d0, hv0, -, -⟩ := hM.form (k := 0) (by omega)
  obtain ⟨A2, d2, hv2, -, -⟩ := hM.form (k := 2) (by omega)
  rw [show (s.mat 0).length = r from hs.ra.1] at hv0
  rw [show (s.mat 2).length = n from hs.rv.1] at hv2
  rw [hv0] at c0
  rw [hv2] at c2
  obtain ⟨N, hN⟩ : ∃ N, N = r + n := ⟨_, rfl⟩
  have HCAT : Hid (∀ w' B, Below w.heap.size w w' → w'.heap[B]? = some (.cells #[.slice A0 r d0, .slice A2 n d2] 40 (0, 0)) → Calls Tryz.prog 85 #[.slice (some ⟨B, 0, none⟩) 2 2] w' fun e w'' => ∃ A c, e = .returned (.slice A N c) ∧ w''.ownsRow w'.heap.size 25 1 (.slice A N c) N (rowsV s bl cs 0 ++ rowsV s bl cs 2) ∧ Below w'.heap.size w' w'') :=
    Lib.hid fun w' B hb hB => (cat_two hr hn hs hM hb (by rw [hv0, hv2]; exact hB)).mono fun e w'' ⟨A, c, h1, h2, h3⟩ => ⟨A, c, by rw [h1, cat_two_len hs, hN], by rw [cat_two_len hs, ← hN] at h2; exact h2, h3⟩
  have HN := Lib.hid hN
  have hN0 : 0 < N := by omega
  clear hN
  have HM := Lib.hid hM
  have HS := Lib.hid hs
  have HS' := Lib.hid (hs.addC j k q)
  have HF : Hid (∀ c, c = 0 ∨ c = 2 → FitC (s.mat c) j k q) := Lib.hid fun c hc => by
    rcases hc with rfl | rfl
    · exact hfa
    · exact hfv
  clear hM hs hfa hfv c1 c3 hv0 hv2
  have hk0 : (0 : Int) ≤ (k : Int) := Int.natCast_nonneg _
  have hj0 : (0 : Int) ≤ (j : Int) := Int.natCast_nonneg _
  have hkn : (k : Int) < (n : Int) := by omega
  have hjn : (j : Int) < (n : Int) := by omega
  go_enter Tryz.func120, Tryz.ntmps120
  go_wp2_with fail
  go_region_held3 (fun w' => w'.cell? ⟨w.heap.size, 0, none⟩ = some (.pointer (some ⟨b, 0, none⟩)) ∧ w'.cell? ⟨b, 0, none⟩ = some (.slice A0 r d0) ∧ w'.cell? ⟨b, 2, none⟩ = some (.slice A2 n d2)) (first | (with_reducible exact HS1.out) | go_keep)
    ((go_at_call 85; (refine (HCAT.out _ _ (below_two _ _ _) (heap_alloc_two _ _ _)).mono ?_); rintro e w1 ⟨A, c, rfl, ho, hb⟩; have HO := Lib.hid ho; have HS1 : Hid (w1.cell? ⟨w.heap.size, 0, none⟩ = some (.pointer (some ⟨b, 0, none⟩)) ∧ w1.cell? ⟨b, 0, none⟩ = some (.slice A0 r d0) ∧ w1.cell? ⟨b, 2, none⟩ = some (.slice A2 n d2)) := Lib.hid ⟨(hb.cell (p := ⟨w.heap.size, 0, none⟩) (by simp; omega)).trans (by rw [cell_of_row _ _ _ _ _ _ (heap_alloc_one _ _ _)]; rfl), ((below_two _ _ _).trans (hb.mono (below_two _ _ _).size)).cell (p := ⟨b, 0, none⟩) hbl |>.trans c0, ((below_two _ _ _).trans (hb.mono (below_two _ _ _).size)).cell (p := ⟨b, 2, none⟩) hbl |>.trans c2⟩; have HB := Lib.hid ((below_two _ _ _).trans (hb.mono (below_two _ _ _).size)); clear ho hb))
  obtain ⟨g, c', e, -, -⟩ := owns_cells HO.out hN0
  obtain rfl : c = c' := by injection e
  obtain rfl : A = some ⟨g, 0, none⟩ := by injection e
  clear e
  have hz1 := HB.out.size
  go_wp2_with fail
  go_loopw [23] (fun z wr => ∃ p : Nat, p ≤ N ∧ z = .int .i64 p ∧ Hid (WkM 62 b base wr (twoTo s (s.addC j k q) r p) x vs bl cs ∧ wr.ownsRow base 25 1 (.slice (some ⟨g, 0, none⟩) N c) N (rowsV s bl cs 0 ++ rowsV s bl cs 2) ∧ Ch base w wr)) (fun z _ => N - (intOf z).toNat)
  case atStart => exact ⟨0, by omega, rfl, Lib.hid ⟨by rw [twoTo_zero]; exact HM.out.below HB.out, owns_base HO.out (Nat.le_trans hbw (below_two _ _ _).size), Ch.of_below hbw HB.out⟩⟩
  case round =>
    obtain ⟨p, hp, rfl, HQ⟩ := hrel
    have hp0 : (0 : Int) ≤ (p : Int) := Int.natCast_nonneg _
    by_cases hlt : p < N
    · have hlt' : (p : Int) < (N : Int) := by omega
      have hpr : p < r + n := by have := HN.out; omega
      have hcell := owns_at HQ.out.2.1 hlt
      rw [rowsV_two HS.out hpr] at hcell
      have hl1 := twoTo_len HS.out HS'.out hpr
      have hl2 := twoTo_row HS.out HS'.out hpr
      have hkk := ofTwo_lt r p
      have hor := ofTwo_or r p
      have hpl : (ofTwo r p).2 < ((twoTo s (s.addC j k q) r p).mat (ofTwo r p).1).length := by rw [hl1.1]; exact hl1.2
      obtain ⟨q1, q2⟩ := HQ.out.1.ent_at (k := (ofTwo r p).1) (i := (ofTwo r p).2) (j := j) hkk hpl (by rw [hl2]; exact hj)
      obtain ⟨q3, -⟩ := HQ.out.1.ent_at (k := (ofTwo r p).1) (i := (ofTwo r p).2) (j := k) hkk hpl (by rw [hl2]; exact hk)
      rw [twoTo_ent HS.out HS'.out] at q1 q3
      obtain ⟨f1, f2, f3, f4⟩ := HF.out _ hor (ofTwo r p).2
      have hset := HQ.out.1.set (k := (ofTwo r p).1) (i := (ofTwo r p).2) (j := j) hkk hpl (by rw [hl2]; exact hj) (ent (s.mat (ofTwo r p).1) (ofTwo r p).2 j + q * ent (s.mat (ofTwo r p).1) (ofTwo r p).2 k)
      have hrow : ((twoTo s (s.addC j k q) r p).mat (ofTwo r p).1).getD (ofTwo r p).2 [] = (s.mat (ofTwo r p).1).getD (ofTwo r p).2 [] := twoTo_mat HS.out HS'.out
      rw [show put ((twoTo s (s.addC j k q) r p).mat (ofTwo r p).1) (ofTwo r p).2 j (ent (s.mat (ofTwo r p).1) (ofTwo r p).2 j + q * ent (s.mat (ofTwo r p).1) (ofTwo r p).2 k) = ((twoTo s (s.addC j k q) r p).mat (ofTwo r p).1).set (ofTwo r p).2 (((s.mat (ofTwo r p).1).getD (ofTwo r p).2 []).set j (ent (s.mat (ofTwo r p).1) (ofTwo r p).2 j + q * ent (s.mat (ofTwo r p).1) (ofTwo r p).2 k)) by unfold put; rw [hrow], twoTo_set HS.out HS'.out (by rw [addC_mat s j k q hor, addC_row])] at hset
      obtain ⟨D, hD⟩ := HQ.out.1.row_ty hkk hpl
      obtain ⟨hb1, -, hcs⟩ := HQ.out.1.row _ _ hkk hpl
      rw [hl2] at hcs
      obtain ⟨hcs1, hcs2⟩ := hcs
      have hown := owns_other (by decide) HQ.out.2.1 hD (k := j) (u := .int .i64 (ent (s.mat (ofTwo r p).1) (ofTwo r p).2 j + q * ent (s.mat (ofTwo r p).1) (ofTwo r p).2 k))
      have hbel := HQ.out.2.2.setCell hb1 hD (.inl rfl) j (.int .i64 (ent (s.mat (ofTwo r p).1) (ofTwo r p).2 j + q * ent (s.mat (ofTwo r p).1) (ofTwo r p).2 k))
      have HNX := Lib.hid (And.intro hset (And.intro hown hbel))
      clear hset hown hbel hrow hl1 hl2 hpl hor hkk hD hb1
      generalize ent (s.mat (ofTwo r p).1) (ofTwo r p).2 j = z at *
      generalize ent (s.mat (ofTwo r p).1) (ofTwo r p).2 k = y at *
      generalize bl (ofTwo r p).1 (ofTwo r p).2 = B1 at *
      generalize cs (ofTwo r p).1 (ofTwo r p).2 = C1 at *
      obtain ⟨f1a, f1b⟩ := f1
      obtain ⟨f2a, f2b⟩ := f2
      obtain ⟨f3a, f3b⟩ := f3
      obtain ⟨f4a, f4b⟩ := f4
      clear hN0 hz1
      go_wp2_with fail
      go_region
      go_wp2_with fail
      go_roundw
      case rel => exact ⟨p + 1, by omega, by go_num, Lib.hid ⟨HNX.out.1.drewN 1, owns_keep HNX.out.2.1 (fun _ _ => rfl), HNX.out.2.2.drew⟩⟩
      case measure => simp [intOf]; omega
    · obtain rfl : p = N := by omega
      go_wp2_with fail
      go_end0
      exact ⟨rfl, ⟨vs, bl, cs, by have := HQ.out.1; rw [HN.out, twoTo_full HS.out HS'.out rfl rfl] at this; exact this⟩, HQ.out.2.2⟩
end Go.Proofs
namespace Go.Proofs
open Go.RowKit Go.Shelf Go.Proofs.Sm
theorem swC_row {m : Mat} (j k : Nat) (i : Nat) : (Sm.swC m j k).getD i [] = ((m.getD i []).set j (ent m i k)).set k (ent m i j) := by
  unfold Sm.swC ent
  rw [getD_map_ (d := []) (h := by simp)]
theorem swC_mat (s : S) (j k : Nat) {c : Nat} (hc : c = 0 ∨ c = 2) : (s.swC j k).mat c = Sm.swC (s.mat c) j k := by
  rcases hc with rfl | rfl <;> rfl
theorem put_put (m : Mat) (i j k : Nat) (y z : Int) : put (put m i j y) i k z = m.set i (((m.getD i []).set j y).set k z) := by
  unfold put
  rw [getD_set_, List.set_set]
  by_cases h : i < m.length
  · rw [if_pos ⟨rfl, h⟩]
  · rw [List.set_eq_of_length_le (by omega), List.set_eq_of_length_le (by omega)]
set_option maxRecDepth 100000 in
set_option maxHeartbeats 1000000 in
theorem cswap72_any (base b j k r n : Nat) (w : World) (s : S) (x : Value) (hs : Shape r n s) (hj : j < n) (hk : k < n) (hr : r ≤ 100000) (hn : n ≤ 100000) (hS : Wk 62 b base w s x) (hbw : base ≤ w.heap.size) :
    Calls Tryz.prog 75 #[.agg #[.pointer (some ⟨b, 0, none⟩)], .int .i64 (j : Int), .int .i64 (k : Int)] w fun e w' => e = .returned (.tuple #[]) ∧ Wk 62 b base w' (s.swC j k) x ∧ Ch base w w' := by
  obtain ⟨vs, bl, cs, hM⟩ := hS
  obtain ⟨c0, c1, c2, c3, c4⟩ := hM.cells
  have hbl := hM.lt
  obtain ⟨A0, d0, hv0, -, -⟩ := hM.form (k := 0) (by omega)
  obtain ⟨A2, d2, hv2, -, -⟩ := hM.form (k := 2) (by omega)
  rw [show (s.mat 0).length = r from hs.ra.1] at hv0
  rw [show (s.mat 2).length = n from hs.rv.1] at hv2
  rw [hv0] at c0
  rw [hv2] at c2
  obtain ⟨N, hN⟩ : ∃ N, N = r + n := ⟨_, rfl⟩
  have HCAT : Hid (∀ w' B, Below w.heap.size w w' → w'.heap[B]? = some (.cells #[.slice A0 r d0, .slice A2 n d2] 40 (0, 0)) → Calls Tryz.prog 85 #[.slice (some ⟨B, 0, none⟩) 2 2] w' fun e w'' => ∃ A c, e = .returned (.slice A N c) ∧ w''.ownsRow w'.heap.size 25 1 (.slice A N c) N (rowsV s bl cs 0 ++ rowsV s bl cs 2) ∧ Below w'.heap.size w' w'') :=
    Lib.hid fun w' B hb hB => (cat_two hr hn hs hM hb (by rw [hv0, hv2]; exact hB)).mono fun e w'' ⟨A, c, h1, h2, h3⟩ => ⟨A, c, by rw [h1, cat_two_len hs, hN], by rw [cat_two_len hs, ← hN] at h2; exact h2, h3⟩
  have HN := Lib.hid hN
  have hN0 : 0 < N := by omega
  clear hN
  have HM := Lib.hid hM
  have HS := Lib.hid hs
  have HS' := Lib.hid (hs.swC j k)
  clear hM hs c1 c3 hv0 hv2
  have hk0 : (0 : Int) ≤ (k : Int) := Int.natCast_nonneg _
  have hj0 : (0 : Int) ≤ (j : Int) := Int.natCast_nonneg _
  have hkn : (k : Int) < (n : Int) := by omega
  have hjn : (j : Int) < (n : Int) := by omega
  go_enter Tryz.func75, Tryz.ntmps75
  go_wp2_with fail
  go_region_held3 (fun w' => w'.cell? ⟨w.heap.size, 0, none⟩ = some (.pointer (some ⟨b, 0, none⟩)) ∧ w'.cell? ⟨b, 0, none⟩ = some (.slice A0 r d0) ∧ w'.cell? ⟨b, 2, none⟩ = some (.slice A2 n d2)) (first | (with_reducible exact HS1.out) | go_keep)
    ((go_at_call 85; (refine (HCAT.out _ _ (below_two _ _ _) (heap_alloc_two _ _ _)).mono ?_); rintro e w1 ⟨A, c, rfl, ho, hb⟩; have HO := Lib.hid ho; have HS1 : Hid (w1.cell? ⟨w.heap.size, 0, none⟩ = some (.pointer (some ⟨b, 0, none⟩)) ∧ w1.cell? ⟨b, 0, none⟩ = some (.slice A0 r d0) ∧ w1.cell? ⟨b, 2, none⟩ = some (.slice A2 n d2)) := Lib.hid ⟨(hb.cell (p := ⟨w.heap.size, 0, none⟩) (by simp; omega)).trans (by rw [cell_of_row _ _ _ _ _ _ (heap_alloc_one _ _ _)]; rfl), ((below_two _ _ _).trans (hb.mono (below_two _ _ _).size)).cell (p := ⟨b, 0, none⟩) hbl |>.trans c0, ((below_two _ _ _).trans (hb.mono (below_two _ _ _).size)).cell (p := ⟨b, 2, none⟩) hbl |>.trans c2⟩; have HB := Lib.hid ((below_two _ _ _).trans (hb.mono (below_two _ _ _).size)); clear ho hb))
  obtain ⟨g, c', e, -, -⟩ := owns_cells HO.out hN0
  obtain rfl : c = c' := by injection e
  obtain rfl : A = some ⟨g, 0, none⟩ := by injection e
  clear e
  have hz1 := HB.out.size
  go_wp2_with fail
  go_loopw [21] (fun z wr => ∃ p : Nat, p ≤ N ∧ z = .int .i64 p ∧ Hid (WkM 62 b base wr (twoTo s (s.swC j k) r p) x vs bl cs ∧ wr.ownsRow base 25 1 (.slice (some ⟨g, 0, none⟩) N c) N (rowsV s bl cs 0 ++ rowsV s bl cs 2) ∧ Ch base w wr)) (fun z _ => N - (intOf z).toNat)
  case atStart => exact ⟨0, by omega, rfl, Lib.hid ⟨by rw [twoTo_zero]; exact HM.out.below HB.out, owns_base HO.out (Nat.le_trans hbw (below_two _ _ _).size), Ch.of_below hbw HB.out⟩⟩
  case round =>
    obtain ⟨p, hp, rfl, HQ⟩ := hrel
    have hp0 : (0 : Int) ≤ (p : Int) := Int.natCast_nonneg _
    by_cases hlt : p < N
    · have hlt' : (p : Int) < (N : Int) := by omega
      have hpr : p < r + n := by have := HN.out; omega
      have hcell := owns_at HQ.out.2.1 hlt
      rw [rowsV_two HS.out hpr] at hcell
      have hl1 := twoTo_len HS.out HS'.out hpr
      have hl2 := twoTo_row HS.out HS'.out hpr
      have hkk := ofTwo_lt r p
      have hor := ofTwo_or r p
      have hpl : (ofTwo r p).2 < ((twoTo s (s.swC j k) r p).mat (ofTwo r p).1).length := by rw [hl1.1]; exact hl1.2
      obtain ⟨q1, q2⟩ := HQ.out.1.ent_at (k := (ofTwo r p).1) (i := (ofTwo r p).2) (j := j) hkk hpl (by rw [hl2]; exact hj)
      obtain ⟨q3, -⟩ := HQ.out.1.ent_at (k := (ofTwo r p).1) (i := (ofTwo r p).2) (j := k) hkk hpl (by rw [hl2]; exact hk)
      rw [twoTo_ent HS.out HS'.out] at q1 q3
      have hset1 := HQ.out.1.set (k := (ofTwo r p).1) (i := (ofTwo r p).2) (j := j) hkk hpl (by rw [hl2]; exact hj) (ent (s.mat (ofTwo r p).1) (ofTwo r p).2 k)
      have hm1 : ((twoTo s (s.swC j k) r p).setMat (ofTwo r p).1 (put ((twoTo s (s.swC j k) r p).mat (ofTwo r p).1) (ofTwo r p).2 j (ent (s.mat (ofTwo r p).1) (ofTwo r p).2 k))).mat (ofTwo r p).1 = put ((twoTo s (s.swC j k) r p).mat (ofTwo r p).1) (ofTwo r p).2 j (ent (s.mat (ofTwo r p).1) (ofTwo r p).2 k) := mat_set_self _ _ _
      have hset := hset1.set (k := (ofTwo r p).1) (i := (ofTwo r p).2) (j := k) hkk (by rw [hm1, length_put]; exact hpl) (by rw [hm1, rowlen_put, hl2]; exact hk) (ent (s.mat (ofTwo r p).1) (ofTwo r p).2 j)
      rw [hm1, setMat_setMat, put_put] at hset
      have hrow : ((twoTo s (s.swC j k) r p).mat (ofTwo r p).1).getD (ofTwo r p).2 [] = (s.mat (ofTwo r p).1).getD (ofTwo r p).2 [] := twoTo_mat HS.out HS'.out
      rw [hrow, twoTo_set HS.out HS'.out (by rw [swC_mat s j k hor, swC_row])] at hset
      obtain ⟨D, hD⟩ := HQ.out.1.row_ty hkk hpl
      obtain ⟨hb1, -, hcs⟩ := HQ.out.1.row _ _ hkk hpl
      rw [hl2] at hcs
      obtain ⟨hcs1, hcs2⟩ := hcs
      have hD2 : ∃ D2, (wr.setCell ⟨bl (ofTwo r p).1 (ofTwo r p).2, j, none⟩ (.int .i64 (ent (s.mat (ofTwo r p).1) (ofTwo r p).2 k))).heap[bl (ofTwo r p).1 (ofTwo r p).2]? = some (.cells D2 3 (0, 0)) := hset1.row_ty hkk (by rw [hm1, length_put]; exact hpl)
      obtain ⟨D2, hD2⟩ := hD2
      have hown := owns_other (by decide) (owns_other (by decide) HQ.out.2.1 hD (k := j) (u := .int .i64 (ent (s.mat (ofTwo r p).1) (ofTwo r p).2 k))) hD2 (k := k) (u := .int .i64 (ent (s.mat (ofTwo r p).1) (ofTwo r p).2 j))
      have hbel := (HQ.out.2.2.setCell hb1 hD (.inl rfl) j (.int .i64 (ent (s.mat (ofTwo r p).1) (ofTwo r p).2 k))).setCell hb1 hD2 (.inl rfl) k (.int .i64 (ent (s.mat (ofTwo r p).1) (ofTwo r p).2 j))
      have HNX := Lib.hid (And.intro hset (And.intro hown hbel))
      obtain ⟨-, q4⟩ := HQ.out.1.ent_at (k := (ofTwo r p).1) (i := (ofTwo r p).2) (j := k) hkk hpl (by rw [hl2]; exact hk)
      clear hset hset1 hm1 hown hbel hrow hl1 hl2 hpl hor hkk hD hD2 hb1
      generalize ent (s.mat (ofTwo r p).1) (ofTwo r p).2 j = z at *
      generalize ent (s.mat (ofTwo r p).1) (ofTwo r p).2 k = y at *
      generalize bl (ofTwo r p).1 (ofTwo r p).2 = B1 at *
      generalize cs (ofTwo r p).1 (ofTwo r p).2 = C1 at *
      clear hN0 hz1
      by_cases hjk : j = k
      · subst hjk
        obtain rfl : z = y := by rw [q1] at q3; injection q3 with e1; injection e1
        clear q3
        go_wp2_with fail
        go_region
        go_wp2_with fail
        go_roundw
        case rel => exact ⟨p + 1, by omega, by go_num, Lib.hid ⟨HNX.out.1.drewN 1, owns_keep HNX.out.2.1 (fun _ _ => rfl), HNX.out.2.2.drew⟩⟩
        case measure => simp [intOf]; omega
      · have hkj : k ≠ j := fun e => hjk e.symm
        go_wp2_with fail
        go_region
        go_wp2_with fail
        go_roundw
        case rel => exact ⟨p + 1, by omega, by go_num, Lib.hid ⟨HNX.out.1.drewN 1, owns_keep HNX.out.2.1 (fun _ _ => rfl), HNX.out.2.2.drew⟩⟩
        case measure => simp [intOf]; omega
    · obtain rfl : p = N := by omega
      go_wp2_with fail
      go_end0
      exact ⟨rfl, ⟨vs, bl, cs, by have := HQ.out.1; rw [HN.out, twoTo_full HS.out HS'.out rfl rfl] at this; exact this⟩, HQ.out.2.2⟩
/-- the rows of the first c of the matrices a, u change places -/
def swTo (s : S) (i k : Nat) : Nat → S
  | 0 => s
  | 1 => s.setMat 0 (Sm.swR s.a i k)
  | _ => s.swR i k
theorem swTo_succ (s : S) (i k : Nat) {c : Nat} (hc : c < 2) : (swTo s i k c).setMat c (Sm.swR (s.mat c) i k) = swTo s i k (c + 1) := by
  obtain rfl | rfl : c = 0 ∨ c = 1 := by omega
  all_goals rfl
theorem swTo_mat (s : S) (i k : Nat) {c : Nat} (hc : c < 2) : (swTo s i k c).mat c = s.mat c := by
  obtain rfl | rfl : c = 0 ∨ c = 1 := by omega
  all_goals rfl
theorem lit25_keep {w : World} {B : Nat} {C : Array Value} {b' k : Nat} {D : Array Value} {v : Value} (h : w.heap[B]? = some (.cells C 40 (0, 0))) (hb : w.heap[b']? = some (.cells D 25 (0, 0))) : (w.setCell ⟨b', k, none⟩ v).heap[B]? = some (.cells C 40 (0, 0)) := by
  rw [Below.heap_setCell w ⟨b', k, none⟩ v B fun e => ?_]
  · exact h
  · have e' : B = b' := e
    rw [e', hb] at h
    cases h
theorem box_set {w : World} {b : Nat} {C : Array Value} {T : TypeId} (hb : w.heap[b]? = some (.cells C T (0, 0))) (k : Nat) (v : Value) : (w.setCell ⟨b, k, none⟩ v).heap[b]? = some (.cells (C.setIfInBounds k v) T (0, 0)) := by
  simp [World.setCell, Array.getElem?_modify, hb]
set_option maxRecDepth 100000 in
set_option maxHeartbeats 1000000 in
theorem rswap71_any (base b i k r n : Nat) (w : World) (s : S) (x : Value) (hs : Shape r n s) (hi : i < r) (hk : k < r) (hS : Wk 62 b base w s x) (hbw : base ≤ w.heap.size) :
    Calls Tryz.prog 74 #[.agg #[.pointer (some ⟨b, 0, none⟩)], .int .i64 (i : Int), .int .i64 (k : Int)] w fun e w' => e = .returned (.tuple #[]) ∧ Wk 62 b base w' (s.swR i k) x ∧ Ch base w w' := by
  obtain ⟨vs, bl, cs, hM⟩ := hS
  obtain ⟨c0, c1, c2, c3, c4⟩ := hM.cells
  have hbl := hM.lt
  obtain ⟨A0, d0, hv0, -, -⟩ := hM.form (k := 0) (by omega)
  obtain ⟨A1, d1, hv1, -, -⟩ := hM.form (k := 1) (by omega)
  rw [show (s.mat 0).length = r from hs.ra.1] at hv0
  rw [show (s.mat 1).length = r from hs.ru.1] at hv1
  rw [hv0] at c0
  rw [hv1] at c1
  have HV0 := Lib.hid hv0
  have HV1 := Lib.hid hv1
  have HM := Lib.hid hM
  have HS := Lib.hid hs
  clear hM hs c2 c3 hv0 hv1
  have hk0 : (0 : Int) ≤ (k : Int) := Int.natCast_nonneg _
  have hi0 : (0 : Int) ≤ (i : Int) := Int.natCast_nonneg _
  go_enter Tryz.func74, Tryz.ntmps74
  go_wp2_with fail
  go_region
  go_wp2_with fail
  go_loopw [20] (fun z wr => ∃ c : Nat, c ≤ 2 ∧ z = .int .i64 c ∧ Hid ((∃ bl cs, WkM 62 b base wr (swTo s i k c) x vs bl cs) ∧ wr.heap[w.heap.size + 1]? = some (.cells #[vs 0, vs 1] 40 (0, 0)) ∧ Ch base w wr)) (fun z _ => 2 - (intOf z).toNat)
  case atStart => exact ⟨0, by omega, rfl, Lib.hid ⟨⟨bl, cs, HM.out.below (below_two _ _ _)⟩, by rw [HV0.out, HV1.out]; exact heap_alloc_two _ _ _, Ch.of_below hbw (below_two _ _ _)⟩⟩
  case round =>
    obtain ⟨c, hc, rfl, HR⟩ := hrel
    have hcc0 : (0 : Int) ≤ (c : Int) := Int.natCast_nonneg _
    by_cases hlt : c < 2
    · have hlt' : (c : Int) < 2 := by omega
      obtain ⟨L, hR⟩ : ∃ L, Rect (s.mat c) r L := by
        obtain rfl | rfl : c = 0 ∨ c = 1 := by omega
        · exact ⟨n, HS.out.ra⟩
        · exact ⟨r, HS.out.ru⟩
      obtain ⟨⟨bl', cs', hW⟩, hlb, hbel⟩ := HR.out
      have hlen : ((swTo s i k c).mat c).length = r := by rw [swTo_mat s i k hlt]; exact hR.1
      have hrl : ∀ p, p < r → (((swTo s i k c).mat c).getD p []).length = L := fun p hp => by rw [swTo_mat s i k hlt]; exact rect_row hR hp
      obtain ⟨g, d, hv, hg1, hg2, hbg⟩ := hW.row_at (k := c) (i := i) (by omega) (by rw [hlen]; exact hi)
      rw [hrl i hi] at hg1
      rw [hlen] at hv
      obtain ⟨g', d', hv', hg3, hg4, -⟩ := hW.row_at (k := c) (i := k) (by omega) (by rw [hlen]; exact hk)
      rw [hrl k hk] at hg3
      rw [hlen, hv] at hv'
      obtain rfl : g = g' := by injection hv' with e1; injection e1 with e2; injection e2
      have hlit : wr.cell? ⟨w.heap.size + 1, c, none⟩ = some (.slice (some ⟨g, 0, none⟩) r d) := by
        rw [cell_of_row _ _ _ _ _ _ hlb]
        obtain rfl | rfl : c = 0 ∨ c = 1 := by omega
        · rw [← hv]; rfl
        · rw [← hv]; rfl
      have hsw := hW.swap (k := c) (i := i) (j := k) (g := g) (by omega) (by rw [hlen]; exact hi) (by rw [hlen]; exact hk) (by rw [hv]; rfl)
      rw [hrl i hi, hrl k hk, swTo_mat s i k hlt, swTo_succ s i k hlt] at hsw
      obtain ⟨-, D, hD⟩ := owns_block (hW.out c (by omega)) g (by rw [hv]; rfl)
      have hlk := lit25_keep (k := k) (v := .slice (some ⟨bl' c i, 0, none⟩) L (cs' c i)) (lit25_keep (k := i) (v := .slice (some ⟨bl' c k, 0, none⟩) L (cs' c k)) hlb hD) (box_set hD i _)
      have hbl2 := (hbel.setCell hbg hD (.inr (.inl rfl)) i (.slice (some ⟨bl' c k, 0, none⟩) L (cs' c k))).setCell hbg (box_set hD i _) (.inr (.inl rfl)) k (.slice (some ⟨bl' c i, 0, none⟩) L (cs' c i))
      have HN := Lib.hid (And.intro hsw (And.intro hlk hbl2))
      clear hsw hlk hbl2 hlen hrl hv hv' hR hD hlb hbel hW
      have hkr : (k : Int) < (r : Int) := by omega
      have hir : (i : Int) < (r : Int) := by omega
      by_cases hik : i = k
      · subst hik
        clear hg3 hg4
        go_wp2_with fail
        go_region
        go_wp2_with fail
        go_roundw
        case rel => exact ⟨c + 1, by omega, by go_num, Lib.hid ⟨⟨_, _, HN.out.1.drewN 1⟩, HN.out.2.1, HN.out.2.2.drew⟩⟩
        case measure => simp [intOf]; omega
      · have hki : k ≠ i := fun e => hik e.symm
        go_wp2_with fail
        go_region
        go_wp2_with fail
        go_roundw
        case rel => exact ⟨c + 1, by omega, by go_num, Lib.hid ⟨⟨_, _, HN.out.1.drewN 1⟩, HN.out.2.1, HN.out.2.2.drew⟩⟩
        case measure => simp [intOf]; omega
    · obtain rfl : c = 2 := by omega
      obtain ⟨⟨bl', cs', hW⟩, -, hbel⟩ := HR.out
      have HW := Lib.hid hW
      have HBL := Lib.hid hbel
      clear hW hbel
      go_wp2_with fail
      go_end0
      exact ⟨rfl, ⟨vs, bl', cs', HW.out⟩, HBL.out⟩
end Go.Proofs
namespace Go.Proofs
open Go.RowKit Go.Shelf Go.Proofs.Sm
/-- function g, bound to lb, answers p at the numbers that ok allows, in w and behind draws -/
def PredW (g : Nat) (lb : Array Value) (ok : Int → Prop) (p : Int → Bool) (w : World) : Prop :=
  ∀ (x : Int) (q : Nat), ok x → Calls Tryz.prog g (#[.int .i64 x] ++ lb) (w.drewN q) fun e w' => e = .returned (.bool (p x)) ∧ ∃ q', w' = w.drewN q'
def IdxSaid (b : Bool) (e : Ending) : Prop := ∃ r : Int, e = .returned (.int .i64 r) ∧ decide (0 ≤ r) = b
theorem any_false_of {p : Int → Bool} {xs : List Int} (h : ∀ j, j < xs.length → p (xs.getD j 0) = false) : xs.any p = false := by
  rw [List.any_eq_false]
  intro x hx
  obtain ⟨c, hc, rfl⟩ := List.mem_iff_getElem.1 hx
  have := h c hc
  rw [List.getD_eq_getElem?_getD, List.getElem?_eq_getElem hc] at this
  simpa using this
theorem any_true_of {p : Int → Bool} {xs : List Int} {k : Nat} (hk : k < xs.length) (h : p (xs.getD k 0) = true) : xs.any p = true := by
  rw [List.any_eq_true]
  rw [List.getD_eq_getElem?_getD, List.getElem?_eq_getElem hk] at h
  exact ⟨_, List.getElem_mem hk, h⟩
section
variable (g : Nat) (lb : Array Value) (ok : Int → Prop) (p : Int → Bool) (w : World) (eg : ∀ args w, (callFunc g args).run Tryz.prog w = .ok (.enter g args) w) (hp : PredW g lb ok p w) (v : Value) (xs : List Int) (h : IntsAt w v xs) (hok : ∀ x ∈ xs, ok x)
include eg hp h hok
set_option maxHeartbeats 400000 in
theorem idx60_any : Calls Tryz.prog 56 #[v, .func (.func g) #[] lb] w fun e w' => IdxSaid (xs.any p) e ∧ ∃ q, w' = w.drewN q := by
  obtain ⟨A, c, rfl, hc1, hc2, hc⟩ := h.open_
  have HC := Lib.hid hc
  have HP := Lib.hid hp
  have HK := Lib.hid hok
  clear hc hp h hok
  go_enter Tryz.func56, Tryz.ntmps56
  go_wp2_with fail
  go_loopw [5, 8] (fun _ i wr => ∃ k : Nat, k ≤ xs.length ∧ i = .int .i64 k ∧ (∀ j, j < k → p (xs.getD j 0) = false) ∧ ∃ q, wr = w.drewN q) (fun _ i _ => xs.length - (intOf i).toNat)
  case atStart => exact ⟨0, Nat.zero_le _, rfl, fun j hj => absurd hj (by omega), 0, rfl⟩
  case round =>
    obtain ⟨k, hk, rfl, hz, q, rfl⟩ := hrel
    have HZ := Lib.hid hz
    clear hz
    by_cases hlt : k < xs.length
    · obtain ⟨b, o, rfl, hcc⟩ := HC.out (by omega)
      have hck := hcc k hlt
      have hx : ok (xs.getD k 0) := HK.out _ (by rw [List.getD_eq_getElem?_getD, List.getElem?_eq_getElem hlt]; exact List.getElem_mem hlt)
      clear hcc
      have HA := Lib.hid (any_true_of (p := p) hlt)
      generalize hxe : xs.getD k 0 = x at *
      have HXE := Lib.hid hxe
      clear hxe
      have HX := Lib.hid hx
      clear hx
      have hcall := HP.out x q HX.out
      cases hq : p x with
      | true =>
        rw [hq] at hcall
        have HQ := Lib.hid hq
        clear hq
        have HCALL := Lib.hid hcall
        clear hcall
        go_wp2_with (go_at_fn g; (refine HCALL.out.mono ?_); rintro e w' ⟨rfl, q', rfl⟩)
        go_ret
        exact ⟨⟨k, rfl, by rw [HA.out HQ.out]; simp⟩, _, rfl⟩
      | false =>
        rw [hq] at hcall
        have HQ := Lib.hid hq
        clear hq
        have HCALL := Lib.hid hcall
        clear hcall
        go_wp2_with (go_at_fn g; (refine HCALL.out.mono ?_); rintro e w' ⟨rfl, q', rfl⟩)
        go_roundw
        case rel => exact ⟨k + 1, by omega, by go_num, all_succ HZ.out (by rw [HXE.out]; exact HQ.out), _, rfl⟩
        case measure => simp [intOf]; omega
    · obtain rfl : k = xs.length := by omega
      go_wp2_with fail
      go_ret
      exact ⟨⟨-1, rfl, by rw [any_false_of HZ.out]; rfl⟩, _, rfl⟩
theorem has41_any : Calls Tryz.prog 52 #[v, .func (.func g) #[] lb] w fun e w' => e = .returned (.bool (xs.any p)) ∧ ∃ q, w' = w.drewN q := by
  have hcon := Lib.hid (idx60_any g lb ok p w eg hp v xs h hok)
  clear hp h hok
  go_enter Tryz.func52, Tryz.ntmps52
  go_wp2_with (go_at_call 56; (refine hcon.out.mono ?_); rintro e w' ⟨⟨r, rfl, hr⟩, q, rfl⟩; have HR := Lib.hid hr; clear hr)
  go_ret
  exact ⟨ret_bool HR.out, _, rfl⟩
end
theorem eg105 : ∀ args w, (callFunc 99 args).run Tryz.prog w = .ok (.enter 99 args) w := enters_of Tryz.func99 (by kernel_rfl) rfl
theorem eg42 : ∀ args w, (callFunc 53 args).run Tryz.prog w = .ok (.enter 53 args) w := enters_of Tryz.func53 (by kernel_rfl) rfl
/-- the absolute value -/
theorem size70_any (x : Int) (w : World) (h1 : -9000000000000000000 ≤ x) (h2 : x ≤ 9000000000000000000) : Calls Tryz.prog 73 #[.int .i64 x] w fun e w' => e = .returned (.int .i64 (x.natAbs : Int)) ∧ w = w' := by
  go_enter Tryz.func73, Tryz.ntmps73
  go_wp2_with fail
  all_goals
    go_ret
    exact ⟨ret_int (by omega), rfl⟩
def Mid (x : Int) : Prop := -9000000000000000000 ≤ x ∧ x ≤ 9000000000000000000
theorem pred105 (w : World) : PredW 99 #[] Mid (fun x => !small x) w := fun x q hx => by
  have hs := Lib.hid fun w' => size70_any x w' hx.1 hx.2
  have e : (decide (1000000000 < (x.natAbs : Int))) = !small x := by
    unfold small
    by_cases h : -1000000000 ≤ x ∧ x ≤ 1000000000
    · rw [decide_eq_true h, decide_eq_false (by omega)]; rfl
    · rw [decide_eq_false h, decide_eq_true (by omega)]; rfl
  have HE := Lib.hid e
  clear e hx
  show Calls Tryz.prog 99 #[.int .i64 x] (w.drewN q) _
  go_enter Tryz.func99, Tryz.ntmps99
  go_wp2_with (go_at_call 73; (refine (hs.out _).mono ?_); rintro e w' ⟨rfl, rfl⟩)
  go_ret
  exact ⟨ret_bool HE.out, _, rfl⟩
/-- an entry of a relation matrix -/
def entryB (x : Int) : Bool := decide (-1000000 ≤ x ∧ x ≤ 1000000)
theorem pred42 (w : World) : PredW 53 #[] In64 (fun x => !entryB x) w := fun x q hx => by
  obtain ⟨h1, h2⟩ := hx
  show Calls Tryz.prog 53 #[.int .i64 x] (w.drewN q) _
  by_cases c1 : x < -1000000
  · have e : (!entryB x) = true := by unfold entryB; rw [decide_eq_false (by omega)]; rfl
    have HE := Lib.hid e
    clear e
    have d1 : decide (x < -1000000) = true := decide_eq_true c1
    go_enter Tryz.func53, Tryz.ntmps53
    go_wp2_with fail
    go_ret
    exact ⟨ret_bool HE.out.symm, _, rfl⟩
  · have d1 : decide (x < -1000000) = false := decide_eq_false c1
    have e : (!entryB x) = decide (1000000 < x) := by
      unfold entryB
      by_cases c2 : 1000000 < x
      · rw [decide_eq_false (by omega), decide_eq_true c2]; rfl
      · rw [decide_eq_true (by omega), decide_eq_false c2]; rfl
    have HE := Lib.hid e
    clear e
    go_enter Tryz.func53, Tryz.ntmps53
    go_wp2_with fail
    go_ret
    exact ⟨ret_bool HE.out.symm, _, rfl⟩
end Go.Proofs
namespace Go.Proofs
open Go.RowKit Go.Shelf Go.Proofs.Sm
/-- what the panic of the procedure carries -/
def failP : List PanicEntry := [{ v := .iface 79 (.agg #[]), recovered := false }]
def allRows (s : S) : List (List Int) := s.a ++ (s.u ++ s.v)
theorem fine_rows (s : S) : s.fine = (allRows s).all fun p => p.all small := by
  unfold S.fine allRows fineM
  rw [List.all_append, List.all_append]
theorem getD_app {α : Type} {d : α} (l m : List α) (i : Nat) : (l ++ m).getD i d = if i < l.length then l.getD i d else m.getD (i - l.length) d := by
  simp only [List.getD_eq_getElem?_getD, List.getElem?_append]
  split <;> rfl
section
variable {T b base : Nat} {w w' : World} {s : S} {x : Value} {vs : Nat → Value} {bl cs : Nat → Nat → Nat}
theorem rowsV_at (h : WkM T b base w s x vs bl cs) {k p : Nat} (hk : k < 3) (hp : p < (s.mat k).length) (hf : Fits ((s.mat k).getD p [])) : ∃ u, (rowsV s bl cs k)[p]? = some u ∧ IntsAt w u ((s.mat k).getD p []) := by
  obtain ⟨-, hX, h1, h2⟩ := h.row k p hk hp
  exact ⟨.slice (some ⟨bl k p, 0, none⟩) ((s.mat k).getD p []).length (cs k p), by simp only [rowsV, List.getElem?_map, List.getElem?_range hp, Option.map_some], hX.ints rfl h1 h2 hf⟩
theorem rows_three (h : WkM T b base w s x vs bl cs) (hf : ∀ y ∈ allRows s, Fits y) {p : Nat} (hp : p < (allRows s).length) : ∃ u, (rowsV s bl cs 0 ++ (rowsV s bl cs 1 ++ rowsV s bl cs 2))[p]? = some u ∧ IntsAt w u ((allRows s).getD p []) := by
  have e0 : s.mat 0 = s.a := rfl
  have e1 : s.mat 1 = s.u := rfl
  have e2 : s.mat 2 = s.v := rfl
  have hfp : ∀ {m : Mat} {i : Nat}, (∀ y ∈ m, y ∈ allRows s) → i < m.length → Fits (m.getD i []) := fun {m i} hm hi => hf _ (hm _ (by rw [List.getD_eq_getElem?_getD, List.getElem?_eq_getElem hi]; exact List.getElem_mem hi))
  unfold allRows at hp ⊢
  rw [getD_app, getD_app, List.getElem?_append, List.getElem?_append, rowsV_length, rowsV_length, e0, e1]
  simp only [List.length_append] at hp
  by_cases h1 : p < s.a.length
  · rw [if_pos h1, if_pos h1]
    exact rowsV_at h (k := 0) (by omega) h1 (hfp (m := s.a) (fun y hy => by simp [allRows, hy]) h1)
  · rw [if_neg h1, if_neg h1]
    by_cases h2 : p - s.a.length < s.u.length
    · rw [if_pos h2, if_pos h2]
      exact rowsV_at h (k := 1) (by omega) h2 (hfp (m := s.u) (fun y hy => by simp [allRows, hy]) h2)
    · rw [if_neg h2, if_neg h2]
      exact rowsV_at h (k := 2) (by omega) (show p - s.a.length - s.u.length < s.v.length by omega) (hfp (m := s.v) (fun y hy => by simp [allRows, hy]) (by omega))
/-- slices.Concat of a, u and v -/
theorem cat_three {r n B : Nat} (hr : r ≤ 100000) (hn : n ≤ 100000) (hs : Shape r n s) (h : WkM T b base w s x vs bl cs) (hb : Below w.heap.size w w') (hB : w'.heap[B]? = some (.cells #[vs 0, vs 1, vs 2] 40 (0, 0))) :
    Calls Tryz.prog 85 #[.slice (some ⟨B, 0, none⟩) 3 3] w' (ValsPost w'.heap.size (rowsV s bl cs 0 ++ (rowsV s bl cs 1 ++ rowsV s bl cs 2)) w') := by
  have hcat := concat90_any w' (.slice (some ⟨B, 0, none⟩) 3 3) [rowsV s bl cs 0, rowsV s bl cs 1, rowsV s bl cs 2]
    ⟨[vs 0, vs 1, vs 2], ⟨_, 3, 3, rfl, rfl, Nat.le_refl _, by simp [maxLen], fun _ => ⟨B, 0, rfl, fun j z hz => by
      rw [cell_of_row _ _ _ _ _ _ hB, Nat.zero_add]
      simpa using hz⟩⟩, rfl, fun i hi => by
      have h2 : i = 0 ∨ i = 1 ∨ i = 2 := by simp at hi; omega
      rcases h2 with rfl | rfl | rfl
      · exact ⟨vs 0, rfl, (h.slv (by omega)).below hb⟩
      · exact ⟨vs 1, rfl, (h.slv (by omega)).below hb⟩
      · exact ⟨vs 2, rfl, (h.slv (by omega)).below hb⟩⟩
    (by simp [catV, rowsV_length, show (s.mat 0).length = r from hs.ra.1, show (s.mat 1).length = r from hs.ru.1, show (s.mat 2).length = n from hs.rv.1]; omega)
  have e : catV [rowsV s bl cs 0, rowsV s bl cs 1, rowsV s bl cs 2] ([rowsV s bl cs 0, rowsV s bl cs 1, rowsV s bl cs 2] : List (List Value)).length = rowsV s bl cs 0 ++ (rowsV s bl cs 1 ++ rowsV s bl cs 2) := by simp [catV]
  rw [e] at hcat
  exact hcat
theorem cat_three_len : (rowsV s bl cs 0 ++ (rowsV s bl cs 1 ++ rowsV s bl cs 2)).length = (allRows s).length := by
  simp only [List.length_append, rowsV_length, allRows]; rfl
end
theorem below_one (w : World) (o : Obj) : Below w.heap.size w (w.alloc o).drew := below_drew ((Below.refl _ _).alloc (Nat.le_refl _) _)
theorem heap_one (w : World) (o : Obj) : (w.alloc o).drew.heap[w.heap.size]? = some o := heap_alloc_new w o
theorem all_of_getD {l : List (List Int)} {p : List Int → Bool} (h : ∀ j, j < l.length → p (l.getD j []) = true) : l.all p = true := by
  rw [List.all_eq_true]
  intro x hx
  obtain ⟨i, hi, rfl⟩ := List.getElem_of_mem hx
  have := h i hi
  rwa [List.getD_eq_getElem?_getD, List.getElem?_eq_getElem hi] at this
theorem any_not_small (l : List Int) : (l.any fun x => !small x) = !(l.all small) := by
  induction l with
  | nil => rfl
  | cons a l ih => simp only [List.any_cons, List.all_cons, ih, Bool.not_and]
def CheckPost (base : Nat) (f : Bool) (w : World) (e : Ending) (w' : World) : Prop := ((f = true ∧ e = .returned (.tuple #[])) ∨ (f = false ∧ e = .panicked failP)) ∧ Below base w w'
set_option maxRecDepth 100000 in
set_option maxHeartbeats 1000000 in
theorem check99_any (base b r n : Nat) (w : World) (s : S) (x : Value) (hs : Shape r n s) (hr : r ≤ 100000) (hn : n ≤ 100000) (hS : Wk 62 b base w s x) (hm : ∀ y ∈ allRows s, ∀ z ∈ y, Mid z) :
    Calls Tryz.prog 94 #[.pointer (some ⟨b, 0, none⟩)] w (CheckPost w.heap.size s.fine w) := by
  obtain ⟨vs, bl, cs, hM⟩ := hS
  obtain ⟨c0, c1, c2, c3, c4⟩ := hM.cells
  have hbl := hM.lt
  obtain ⟨A0, d0, hv0, -, -⟩ := hM.form (k := 0) (by omega)
  obtain ⟨A1, d1, hv1, -, -⟩ := hM.form (k := 1) (by omega)
  obtain ⟨A2, d2, hv2, -, -⟩ := hM.form (k := 2) (by omega)
  rw [show (s.mat 0).length = r from hs.ra.1] at hv0
  rw [show (s.mat 1).length = r from hs.ru.1] at hv1
  rw [show (s.mat 2).length = n from hs.rv.1] at hv2
  rw [hv0] at c0
  rw [hv1] at c1
  rw [hv2] at c2
  obtain ⟨N, hN⟩ : ∃ N, N = (allRows s).length := ⟨_, rfl⟩
  have HCAT : Hid (∀ w' B, Below w.heap.size w w' → w'.heap[B]? = some (.cells #[.slice A0 r d0, .slice A1 r d1, .slice A2 n d2] 40 (0, 0)) → Calls Tryz.prog 85 #[.slice (some ⟨B, 0, none⟩) 3 3] w' fun e w'' => ∃ A c, e = .returned (.slice A N c) ∧ w''.ownsRow w'.heap.size 25 1 (.slice A N c) N (rowsV s bl cs 0 ++ (rowsV s bl cs 1 ++ rowsV s bl cs 2)) ∧ Below w'.heap.size w' w'') :=
    Lib.hid fun w' B hb hB => (cat_three hr hn hs hM hb (by rw [hv0, hv1, hv2]; exact hB)).mono fun e w'' ⟨A, c, h1, h2, h3⟩ => ⟨A, c, by rw [h1, cat_three_len, hN], by rw [cat_three_len, ← hN] at h2; exact h2, h3⟩
  have HN := Lib.hid hN
  have hNb : (N : Int) ≤ 300000 := by
    have h1 := hs.ra.1
    have h2 := hs.ru.1
    have h3 := hs.rv.1
    have h4 : (allRows s).length = s.a.length + (s.u.length + s.v.length) := by simp [allRows]
    omega
  have HM := Lib.hid hM
  have HMID := Lib.hid hm
  have HFIT : Hid (∀ y ∈ allRows s, Fits y) := Lib.hid fun y hy z hz => by
    have h := hm y hy z hz
    obtain ⟨h1, h2⟩ := h
    omega
  have HFINE := Lib.hid (fine_rows s)
  clear hM hs c3 hv0 hv1 hv2 hN hm
  generalize s.fine = fb at *
  go_enter Tryz.func94, Tryz.ntmps94
  go_wp2_with fail
  go_region_held3 (fun w' => w'.cell? ⟨b, 0, none⟩ = some (.slice A0 r d0) ∧ w'.cell? ⟨b, 1, none⟩ = some (.slice A1 r d1) ∧ w'.cell? ⟨b, 2, none⟩ = some (.slice A2 n d2)) (first | (with_reducible exact HS1.out) | go_keep)
    ((go_at_call 85; (refine (HCAT.out _ _ (below_one _ _) (heap_one _ _)).mono ?_); rintro e w1 ⟨A, c, rfl, ho, hb⟩; have HO := Lib.hid ho; have HB := Lib.hid ((below_one _ _).trans (hb.mono (below_one _ _).size)); have HS1 : Hid (w1.cell? ⟨b, 0, none⟩ = some (.slice A0 r d0) ∧ w1.cell? ⟨b, 1, none⟩ = some (.slice A1 r d1) ∧ w1.cell? ⟨b, 2, none⟩ = some (.slice A2 n d2)) := Lib.hid ⟨(HB.out.cell (p := ⟨b, 0, none⟩) hbl).trans c0, (HB.out.cell (p := ⟨b, 1, none⟩) hbl).trans c1, (HB.out.cell (p := ⟨b, 2, none⟩) hbl).trans c2⟩; clear ho hb))
  clear HCAT HS1 c0 c1 c2 c4 hbl
  go_wp2_with fail
  go_loopw [19] (fun z wr => ∃ p : Nat, p ≤ N ∧ z = .int .i64 p ∧ Hid (∀ j, j < p → ((allRows s).getD j []).all small = true) ∧ ∃ q, wr = w1.drewN q) (fun z _ => N - (intOf z).toNat)
  case atStart => exact ⟨0, by omega, rfl, Lib.hid (fun j hj => absurd hj (by omega)), (by first | exact ⟨_, rfl⟩ | exact ⟨0, rfl⟩)⟩
  case round =>
    obtain ⟨p, hp, rfl, HZ, q, rfl⟩ := hrel
    have hp0 : (0 : Int) ≤ (p : Int) := Int.natCast_nonneg _
    by_cases hlt : p < N
    · have hlt' : (p : Int) < (N : Int) := by omega
      obtain ⟨g, c', e, -, hcell⟩ := owns_cells HO.out (by omega)
      obtain rfl : c = c' := by injection e
      obtain rfl : A = some ⟨g, 0, none⟩ := by injection e
      have hck := hcell p hlt
      have hpl : p < (allRows s).length := by rw [← HN.out]; exact hlt
      obtain ⟨u, hu, hI⟩ := rows_three (HM.out.below HB.out) HFIT.out hpl
      rw [hu] at hck
      have hmem : (allRows s).getD p [] ∈ allRows s := by rw [List.getD_eq_getElem?_getD, List.getElem?_eq_getElem hpl]; exact List.getElem_mem hpl
      have hcall := has41_any 99 #[] Mid (fun x => !small x) (w1.drewN q) eg105 (pred105 _) u _ (hI.drewN q) (HMID.out _ hmem)
      rw [any_not_small] at hcall
      clear hcell e hu hI
      cases hb : ((allRows s).getD p []).all small with
      | true =>
        rw [hb] at hcall
        have HC := Lib.hid hcall
        have HZ2 := Lib.hid (all_succ HZ.out hb)
        clear hcall hb hmem hpl HZ
        go_wp2_with (go_at_call 52; (refine HC.out.mono ?_); rintro e w' ⟨rfl, q', rfl⟩)
        go_roundw
        case rel => exact ⟨p + 1, by omega, by go_num, HZ2, (by first | exact ⟨_, rfl⟩ | exact ex_drewN)⟩
        case measure => simp [intOf]; omega
      | false =>
        rw [hb] at hcall
        have HC := Lib.hid hcall
        have HFB : Hid (fb = false) := Lib.hid (by
          rw [HFINE.out, List.all_eq_false]
          exact ⟨_, hmem, by rw [hb]; decide⟩)
        have HD : Hid (∀ q', Below w.heap.size w ((w1.drewN q).drewN q')) := Lib.hid fun q' => below_drewN (below_drewN HB.out q) q'
        clear hcall hb hmem hpl HZ
        go_wp2_with (go_at_call 52; (refine HC.out.mono ?_); rintro e w' ⟨rfl, q', rfl⟩)
        exact ⟨rfl, .inr ⟨HFB.out, rfl⟩, below_drewN HB.out _⟩
    · obtain rfl : p = N := by omega
      have HFB : Hid (fb = true) := Lib.hid (by rw [HFINE.out]; exact all_of_getD fun j hj => HZ.out j (by rw [HN.out]; exact hj))
      have HD : Hid (Below w.heap.size w (w1.drewN q)) := Lib.hid (below_drewN HB.out q)
      go_wp2_with fail
      go_end0
      exact ⟨.inl ⟨HFB.out, rfl⟩, HD.out⟩
end Go.Proofs
namespace Go.Proofs
open Go.RowKit Go.Shelf Go.Proofs.Sm
theorem rmany125_any (base b r n : Nat) (w : World) (s : S) (x : Value) (hs : Shape r n s) (hS : Wk 62 b base w s x) :
    Calls Tryz.prog 119 #[.agg #[.pointer (some ⟨b, 0, none⟩)]] w fun e w' => e = .returned (.int .i64 (r : Int)) ∧ Below w.heap.size w w' := by
  obtain ⟨vs, bl, cs, hM⟩ := hS
  obtain ⟨c0, c1, c2, c3, c4⟩ := hM.cells
  have hbl := hM.lt
  obtain ⟨A0, d0, hv0, -, -⟩ := hM.form (k := 0) (by omega)
  rw [show (s.mat 0).length = r from hs.ra.1] at hv0
  rw [hv0] at c0
  clear hM hs hv0 c1 c2 c3 c4
  go_enter Tryz.func119, Tryz.ntmps119
  go_wp2_with fail
  go_ret
  exact ⟨rfl, (Below.refl _ _).alloc (Nat.le_refl _) _⟩
theorem cmany128_any (base b r n : Nat) (w : World) (s : S) (x : Value) (hs : Shape r n s) (hS : Wk 62 b base w s x) :
    Calls Tryz.prog 122 #[.agg #[.pointer (some ⟨b, 0, none⟩)]] w fun e w' => e = .returned (.int .i64 (n : Int)) ∧ Below w.heap.size w w' := by
  obtain ⟨vs, bl, cs, hM⟩ := hS
  obtain ⟨c0, c1, c2, c3, c4⟩ := hM.cells
  have hbl := hM.lt
  obtain ⟨A2, d2, hv2, -, -⟩ := hM.form (k := 2) (by omega)
  rw [show (s.mat 2).length = n from hs.rv.1] at hv2
  rw [hv2] at c2
  clear hM hs hv2 c1 c0 c3 c4
  go_enter Tryz.func122, Tryz.ntmps122
  go_wp2_with fail
  go_ret
  exact ⟨rfl, (Below.refl _ _).alloc (Nat.le_refl _) _⟩
set_option maxRecDepth 100000 in
theorem rentry124_any (base b r n i : Nat) (w : World) (s : S) (hs : Shape r n s) (hi : i < r) (ht : s.t < n) (hS : Wk 62 b base w s (.int .i64 (s.t : Int))) :
    Calls Tryz.prog 118 #[.agg #[.pointer (some ⟨b, 0, none⟩)], .int .i64 (i : Int)] w fun e w' => e = .returned (.int .i64 (ent s.a i s.t)) ∧ Below w.heap.size w w' := by
  obtain ⟨vs, bl, cs, hM⟩ := hS
  obtain ⟨c0, c1, c2, c3, c4⟩ := hM.cells
  have hbl := hM.lt
  have hl : (s.mat 0).length = r := hs.ra.1
  have hrl : ((s.mat 0).getD i []).length = n := rect_row hs.ra hi
  obtain ⟨g, d, hv, h1, -, -⟩ := hM.row_at (k := 0) (i := i) (by omega) (by rw [hl]; exact hi)
  obtain ⟨h2, -⟩ := hM.ent_at (k := 0) (i := i) (j := s.t) (by omega) (by rw [hl]; exact hi) (by rw [hrl]; exact ht)
  have hgl : g < w.heap.size := World.block_lt_of_cell? w _ h1
  have hbl2 := World.block_lt_of_cell? w _ h2
  rw [hrl] at h1
  rw [hv, hl] at c0
  have e : ent (s.mat 0) i s.t = ent s.a i s.t := rfl
  rw [e] at h2
  clear hM hs hv hl hrl c1 c2 c4 e
  generalize ent s.a i s.t = z at *
  generalize s.t = t at *
  have hi0 : (0 : Int) ≤ (i : Int) := Int.natCast_nonneg _
  have ht0 : (0 : Int) ≤ (t : Int) := Int.natCast_nonneg _
  have hi1 : (i : Int) < (r : Int) := by omega
  have ht1 : (t : Int) < (n : Int) := by omega
  go_enter Tryz.func118, Tryz.ntmps118
  go_wp2_with fail
  go_quiet (fail)
  go_wp2_with fail
  go_ret
  exact ⟨rfl, below_drewN ((Below.refl _ _).alloc (Nat.le_refl _) _) _⟩
set_option maxRecDepth 100000 in
theorem centry127_any (base b r n j : Nat) (w : World) (s : S) (hs : Shape r n s) (hj : j < n) (ht : s.t < r) (hS : Wk 62 b base w s (.int .i64 (s.t : Int))) :
    Calls Tryz.prog 121 #[.agg #[.pointer (some ⟨b, 0, none⟩)], .int .i64 (j : Int)] w fun e w' => e = .returned (.int .i64 (ent s.a s.t j)) ∧ Below w.heap.size w w' := by
  obtain ⟨vs, bl, cs, hM⟩ := hS
  obtain ⟨c0, c1, c2, c3, c4⟩ := hM.cells
  have hbl := hM.lt
  have hl : (s.mat 0).length = r := hs.ra.1
  have hrl : ((s.mat 0).getD s.t []).length = n := rect_row hs.ra ht
  obtain ⟨g, d, hv, h1, -, -⟩ := hM.row_at (k := 0) (i := s.t) (by omega) (by rw [hl]; exact ht)
  obtain ⟨h2, -⟩ := hM.ent_at (k := 0) (i := s.t) (j := j) (by omega) (by rw [hl]; exact ht) (by rw [hrl]; exact hj)
  have hgl : g < w.heap.size := World.block_lt_of_cell? w _ h1
  have hbl2 := World.block_lt_of_cell? w _ h2
  rw [hrl] at h1
  rw [hv, hl] at c0
  have e : ent (s.mat 0) s.t j = ent s.a s.t j := rfl
  rw [e] at h2
  clear hM hs hv hl hrl c1 c2 c4 e
  generalize ent s.a s.t j = z at *
  generalize s.t = t at *
  have hj0 : (0 : Int) ≤ (j : Int) := Int.natCast_nonneg _
  have ht0 : (0 : Int) ≤ (t : Int) := Int.natCast_nonneg _
  have hj1 : (j : Int) < (n : Int) := by omega
  have ht1 : (t : Int) < (r : Int) := by omega
  go_enter Tryz.func121, Tryz.ntmps121
  go_wp2_with fail
  go_quiet (fail)
  go_wp2_with fail
  go_ret
  exact ⟨rfl, below_drewN ((Below.refl _ _).alloc (Nat.le_refl _) _) _⟩
end Go.Proofs
