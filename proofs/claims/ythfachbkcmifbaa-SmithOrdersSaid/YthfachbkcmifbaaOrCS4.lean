/- slices.Grow and slices.Concat at lists of rows; (smith.columns).add and swap: the rows of two matrices, one after the other; (smith.columns).swap and (smith.rows).swap; slices.IndexFunc and slices.ContainsFunc at a list of numbers; smith.Check, (smith.work).check. -/
import Derived.Test.YthfachbkcmifbaaOrCS1
import Derived.Test.YthfachbkcmifbaaOrCS3
import Derived.Deep.RegionHeld3
namespace Go.Proofs
open Go.RowKit Go.Shelf Go.Proofs.Sm
theorem run_append_zeros (w : World) (n : Nat) (h0 : 0 < n) (hn : n ≤ 1000000) :
    (Builtin.append_ #[22, 3] 22 #[.slice none 0 0, .int .i64 (n : Int)]).run Try.prog w =
      .ok (.slice (some ⟨w.heap.size, 0, none⟩) n (grownCap w n 0 25)) (w.drew.alloc (.cells (Builtin.zeroCells #[.slice none 0 0] n ++ Builtin.zeroCells #[.slice none 0 0] (grownCap w n 0 25 - n)) 25)) := by
  obtain ⟨i, hi, hz, hs, hby⟩ := info24p
  have hwr : IntKind.i64.wrap (n : Int) = n := IntWalk.i64_in _ (by omega)
  have hn0 : n ≠ 0 := by omega
  have h48 : ¬ (281474976710656 < Builtin.nextslicecap n 0 * i.bytes) := by rw [nextslicecap_zero h0, hby]; omega
  have h48' : ¬ ((281474976710656 : Int) < (n : Int) * (i.bytes : Int)) := by rw [hby]; omega
  have h63' : ¬ (9223372036854775807 < (n : Int)) := by omega
  have hneg : ¬ ((n : Int) < 0) := by omega
  simp [Builtin.append_, run_underlying Try.underlying22, run_underlying Try.underlying3, sizeOf, typeInfo, zeroValue, hi, hz, hs, asInt, asIntOf, hwr, hneg, h48', hn0, h48, h63', Question.forced, run_firstCells_none, newRow, grownCap, Value.cells]
theorem r_app2 {o : Oper} {a : Act} {w w' : World} (s x : Operand) (t u : TypeId) {sv xv v' : Value} (ho : o.op = .call { callee := .builtin .append, args := #[s, x], argTypes := #[t, u] }) (hs : a.eval s = sv) (hx : a.eval x = xv)
    (hr : (Builtin.append_ #[t, u] o.type #[sv, xv]).run Try.prog w = .ok v' w') : (execOp a.eval o).run Try.prog w = .ok (.value v') w' := by
  unfold execOp
  simp only [ho, resolve, invoke, builtin, Sem.run_bind, Sem.run_pure, Result.andThen_ok, List.map_toArray, List.map_cons, List.map_nil, hs, hx, hr]
/-- values of the call's own -/
def ValsPost (base : Nat) (x : List Value) (w : World) (e : Ending) (w' : World) : Prop := ∃ A c, e = .returned (.slice A x.length c) ∧ w'.ownsRow base 25 1 (.slice A x.length c) x.length x ∧ Below w.heap.size w w'
set_option maxRecDepth 100000 in
theorem grow98_any (w : World) (n : Nat) (hn : n ≤ 1000000) : Calls Try.prog 98 #[.slice none 0 0, .int .i64 (n : Int)] w (ValsPost w.heap.size [] w) := by
  have hn0 : (0 : Int) ≤ (n : Int) := Int.natCast_nonneg _
  have hn1 : (n : Int) ≤ 1000000 := by omega
  by_cases h0 : n = 0
  · subst h0
    go_enter Try.func98, Try.ntmps98
    go_wp2_with fail
    go_ret
    exact ⟨none, 0, rfl, World.ownsRow_nil _ _ _ _, Below.refl _ _⟩
  · have hpos : (0 : Int) < (n : Int) := by omega
    have hr := run_append_zeros w n (by omega) hn
    have hcm := grownCap_le_maxLen w n 0 25 (by unfold maxLen; omega)
    have hcg := grownCap_ge w n 0 25
    have hsz : (Builtin.zeroCells #[Value.slice none 0 0] n ++ Builtin.zeroCells #[Value.slice none 0 0] (grownCap w n 0 25 - n)).size = grownCap w n 0 25 := by
      simp [size_zeroCells]; omega
    have hnew := heap_alloc_new w.drew (.cells (Builtin.zeroCells #[Value.slice none 0 0] n ++ Builtin.zeroCells #[Value.slice none 0 0] (grownCap w n 0 25 - n)) 25)
    have hbel : Below w.heap.size w (w.drew.alloc (.cells (Builtin.zeroCells #[Value.slice none 0 0] n ++ Builtin.zeroCells #[Value.slice none 0 0] (grownCap w n 0 25 - n)) 25)) := (below_drewN (Below.refl w.heap.size w) 1).alloc (Nat.le_refl _) _
    generalize Builtin.zeroCells #[Value.slice none 0 0] n ++ Builtin.zeroCells #[Value.slice none 0 0] (grownCap w n 0 25 - n) = C at *
    generalize grownCap w n 0 25 = cap at *
    have hown : (w.drew.alloc (.cells C 25)).ownsRow w.heap.size 25 1 (.slice (some ⟨w.heap.size, 0, none⟩) 0 cap) 0 [] := ⟨rfl, .inr ⟨w.heap.size, cap, C, rfl, Nat.le_refl _, hnew, Nat.zero_le _, hcm, by omega, by simp⟩⟩
    generalize w.drew.alloc (.cells C 25) = W at *
    have hcm' : cap ≤ 9223372036854775807 := by unfold maxLen at hcm; exact hcm
    have hcg' : (n : Int) ≤ (cap : Int) := by omega
    have HR := Lib.hid hr
    have HO := Lib.hid hown
    have HB := Lib.hid hbel
    clear hr hown hbel hnew hsz hcm
    go_enter Try.func98, Try.ntmps98
    go_wp2_with ((with_reducible refine wpList_sel 22 ?_); refine wpList_val rfl (r_app2 (.tmp 20) (.tmp 21) 22 3 rfl rfl rfl HR.out) ?_)
    go_ret
    exact ⟨_, cap, rfl, HO.out, HB.out⟩
/-- a slice whose elements (of one cell each) are these values -/
def SlV (w : World) (v : Value) (xs : List Value) : Prop := Sl w v xs ∧ ∀ y ∈ xs, y.oneCell' = true
theorem SlV.below {w w' : World} {v : Value} {xs : List Value} (h : SlV w v xs) (hb : Below w.heap.size w w') : SlV w' v xs := ⟨h.1.below hb, h.2⟩
/-- the first k lists one after the other -/
def catV (xs : List (List Value)) (k : Nat) : List Value := (xs.take k).flatten
theorem catV_succ (xs : List (List Value)) {k : Nat} (hk : k < xs.length) : catV xs (k + 1) = catV xs k ++ xs.getD k [] := by
  unfold catV
  rw [List.take_succ_eq_append_getElem hk, List.flatten_append]
  simp [List.getD_eq_getElem?_getD, hk]
theorem catV_mono (xs : List (List Value)) {k m : Nat} (h : k ≤ m) (hm : m ≤ xs.length) : (catV xs k).length ≤ (catV xs m).length := by
  obtain ⟨d, rfl⟩ := Nat.exists_eq_add_of_le h
  clear h
  induction d with
  | zero => exact Nat.le_refl _
  | succ d ih =>
    have := ih (by omega)
    rw [← Nat.add_assoc, catV_succ xs (by omega), List.length_append]
    omega
set_option maxRecDepth 100000 in
set_option maxHeartbeats 1000000 in
theorem concat90_any (w : World) (v : Value) (xs : List (List Value)) (h : LAt SlV [] w v xs) (hl : (catV xs xs.length).length ≤ 1000000) : Calls Try.prog 90 #[v] w (ValsPost w.heap.size (catV xs xs.length) w) := by
  obtain ⟨A0, c0, rfl, hc1, hc2, hc⟩ := h.open_
  have HC := Lib.hid hc
  clear hc h
  have hx0 : (0 : Int) ≤ (xs.length : Int) := Int.natCast_nonneg _
  go_enter Try.func90, Try.ntmps90
  go_wp2_with fail
  go_loop [3, 11] (fun so i => ∃ k n : Nat, i = .int .i64 k ∧ k ≤ xs.length ∧ so = .int .i64 n ∧ Hid (n = (catV xs k).length)) (fun _ i => xs.length - (intOf i).toNat)
  case atStart => exact ⟨0, 0, rfl, by omega, rfl, Lib.hid rfl⟩
  case round =>
    obtain ⟨k, n, rfl, hk, rfl, HN⟩ := hrel
    have hk0 : (0 : Int) ≤ (k : Int) := Int.natCast_nonneg _
    have hn0 : (0 : Int) ≤ (n : Int) := Int.natCast_nonneg _
    by_cases hlt : k < xs.length
    · have hlt' : (k : Int) < (xs.length : Int) := by omega
      obtain ⟨b, o, rfl, hcc⟩ := HC.out (by omega)
      obtain ⟨u, hu, hI⟩ := hcc k hlt
      obtain ⟨A5, q, c5, rfl, h1, h2, h3, -⟩ := hI.1
      have hst := catV_succ xs hlt
      have hmo := catV_mono xs (k := k + 1) (m := xs.length) (by omega) (by omega)
      have hb : (n : Int) + (q : Int) ≤ 1000000 := by have := HN.out; rw [hst, List.length_append] at hmo; omega
      have HN2 : Hid (n + q = (catV xs (k + 1)).length) := Lib.hid (by rw [hst, List.length_append, HN.out, h1])
      clear hcc hI hst hmo h1
      unfold maxLen at h3
      have hq0 : (0 : Int) ≤ (q : Int) := Int.natCast_nonneg _
      go_wp2_with fail
      go_round
      case rel => exact ⟨k + 1, n + q, by go_num, by omega, by go_num, HN2⟩
      case measure => simp [intOf]; omega
    · obtain rfl : k = xs.length := by omega
      have HG := Lib.hid (grow98_any w n (by have := HN.out; omega))
      go_wp2_with (go_at_call 98; (refine HG.out.mono ?_); rintro e w1 ⟨A1, c1, rfl, ho, hb⟩; have HO := Lib.hid ho; have HB := Lib.hid hb; clear ho hb)
      go_loopw [6, 27] (fun so i wr => ∃ k n : Nat, i = .int .i64 k ∧ k ≤ xs.length ∧ Hid (n = (catV xs k).length) ∧ ∃ A c, so = .slice A n c ∧ Hid (wr.ownsRow w.heap.size 25 1 so n (catV xs k) ∧ Below w.heap.size w wr)) (fun _ i _ => xs.length - (intOf i).toNat)
      case atStart => exact ⟨0, 0, rfl, by omega, Lib.hid rfl, _, _, rfl, Lib.hid ⟨HO.out, HB.out⟩⟩
      case round =>
        clear HO HB HG HN hn0 hk0
        obtain ⟨k, n, rfl, hk, HN, A, c, rfl, HS⟩ := hrel
        have hk0 : (0 : Int) ≤ (k : Int) := Int.natCast_nonneg _
        by_cases hlt : k < xs.length
        · have hlt' : (k : Int) < (xs.length : Int) := by omega
          obtain ⟨b, o, rfl, hcc⟩ := HC.out (by omega)
          obtain ⟨u, hu, hI⟩ := hcc k hlt
          have hu' := (HS.out.2.cell (p := ⟨b, o + k, none⟩) (World.block_lt_of_cell? w _ hu)).trans hu
          have hmo := catV_mono xs (k := k + 1) (m := xs.length) (by omega) (by omega)
          have hst := catV_succ xs hlt
          have hnl := HN.out
          rw [hst, List.length_append] at hmo
          obtain ⟨A', c', w', hr, ho, hg, -⟩ := run_app (ty := 22) Try.underlying22 info24p rfl (by omega) wr w.heap.size (.slice A n c) n (catV xs k) HS.out.1 u (xs.getD k []) (hI.1.below HS.out.2) hI.2 (by omega) (by omega) HS.out.2.size
          rw [← hst] at ho
          have HR := Lib.hid hr
          have HN2 : Hid (n + (xs.getD k []).length = (catV xs (k + 1)).length) := Lib.hid (by rw [hst, List.length_append, HN.out])
          have HS2 : Hid (w'.ownsRow w.heap.size 25 1 (.slice A' (n + (xs.getD k []).length) c') (n + (xs.getD k []).length) (catV xs (k + 1)) ∧ Below w.heap.size w w') := Lib.hid ⟨ho, HS.out.2.grown hg HS.out.2.size (fun r hr => (owns_block HS.out.1 r hr).1)⟩
          clear hcc hu hI hmo hst hr ho hg hnl
          generalize (xs.getD k []).length = q at *
          go_wp2_with ((with_reducible refine wpList_sel 33 ?_); refine wpList_val rfl (r_app (.tmp 31) (.tmp 32) 22 rfl rfl rfl HR.out) ?_)
          go_roundw
          case rel => exact ⟨k + 1, _, by go_num, by omega, HN2, _, _, rfl, HS2⟩
          case measure => simp [intOf]; omega
        · obtain rfl : k = xs.length := by omega
          go_wp2_with fail
          go_ret
          exact ⟨A, c, by rw [← HN.out]; rfl, by rw [← HN.out]; exact HS.out.1, HS.out.2⟩
end Go.Proofs
namespace Go.Proofs
open Go.RowKit Go.Shelf Go.Proofs.Sm
/-- the first c rows of m', then those of m -/
def mixA (m m' : Mat) (c : Nat) : Mat := m'.take c ++ m.drop c
theorem mixA_zero (m m' : Mat) : mixA m m' 0 = m := by simp [mixA]
theorem mixA_full {m m' : Mat} {c : Nat} (h : m.length ≤ c) (h2 : m'.length ≤ c) : mixA m m' c = m' := by simp [mixA, List.drop_eq_nil_of_le h, List.take_of_length_le h2]
theorem mixA_length {m m' : Mat} (h : m'.length = m.length) (c : Nat) : (mixA m m' c).length = m.length := by simp [mixA]; omega
theorem mixA_getD {m m' : Mat} (h : m'.length = m.length) (c i : Nat) : (mixA m m' c).getD i [] = if i < c then m'.getD i [] else m.getD i [] := by
  simp only [mixA, List.getD_eq_getElem?_getD, List.getElem?_append, List.getElem?_take, List.getElem?_drop, List.length_take]
  rcases Nat.lt_or_ge i m'.length with h1 | h1
  · by_cases h2 : i < c
    · rw [if_pos (by omega), if_pos h2, if_pos h2]
    · rw [if_neg (by omega), if_neg h2, show c + (i - min c m'.length) = i by omega]
  · rw [if_neg (by omega), List.getElem?_eq_none (by omega : m.length ≤ c + (i - min c m'.length)), List.getElem?_eq_none h1, List.getElem?_eq_none (by omega : m.length ≤ i)]
    split <;> rfl
theorem mixA_set {m m' : Mat} (h : m'.length = m.length) {c : Nat} {z : List Int} (hz : z = m'.getD c []) : (mixA m m' c).set c z = mixA m m' (c + 1) := by
  refine getD_ext (d := []) (by rw [List.length_set, mixA_length h, mixA_length h]) fun i hi => ?_
  rw [List.length_set, mixA_length h] at hi
  rw [getD_set_, mixA_getD h, mixA_getD h, mixA_length h]
  by_cases e : c = i
  · subst e; rw [if_pos ⟨rfl, by omega⟩, if_pos (by omega), hz]
  · rw [if_neg (fun hh => e hh.1)]
    by_cases e2 : i < c
    · rw [if_pos e2, if_pos (by omega)]
    · rw [if_neg e2, if_neg (by omega)]
theorem mixA_ent {m m' : Mat} (h : m'.length = m.length) (c j : Nat) : ent (mixA m m' c) c j = ent m c j := by
  unfold ent; rw [mixA_getD h, if_neg (by omega)]
theorem mixA_rect {m m' : Mat} {r n : Nat} (h : Rect m r n) (h' : Rect m' r n) (c : Nat) : Rect (mixA m m' c) r n :=
  rect_of (by rw [mixA_length (by rw [h.1, h'.1]), h.1]) fun i hi => by
    rw [mixA_getD (by rw [h.1, h'.1])]
    split
    · exact rect_row h' hi
    · exact rect_row h hi
/-- a and v with the first q of their rows, a's ahead of v's, as in s' -/
def twoTo (s s' : S) (r q : Nat) : S := { s with a := mixA s.a s'.a q, v := mixA s.v s'.v (q - r) }
/-- matrix and row of the q-th row -/
def ofTwo (r q : Nat) : Nat × Nat := if q < r then (0, q) else (2, q - r)
theorem ofTwo_lt (r q : Nat) : (ofTwo r q).1 < 3 := by unfold ofTwo; split <;> simp
section
variable {s s' : S} {r n q : Nat}
theorem twoTo_zero (s s' : S) (r : Nat) : twoTo s s' r 0 = s := by simp [twoTo, mixA_zero]
theorem twoTo_full (h : Shape r n s) (h' : Shape r n s') (hu : s'.u = s.u) (ht : s'.t = s.t) : twoTo s s' r (r + n) = s' := by
  unfold twoTo
  rw [mixA_full (by rw [h.ra.1]; omega) (by rw [h'.ra.1]; omega), mixA_full (by rw [h.rv.1]; omega) (by rw [h'.rv.1]; omega), ← hu, ← ht]
theorem twoTo_len (h : Shape r n s) (h' : Shape r n s') (hq : q < r + n) : ((twoTo s s' r q).mat (ofTwo r q).1).length = (if q < r then r else n) ∧ (ofTwo r q).2 < (if q < r then r else n) := by
  unfold ofTwo
  split
  · exact ⟨(mixA_rect h.ra h'.ra q).1, by assumption⟩
  · exact ⟨(mixA_rect h.rv h'.rv (q - r)).1, by omega⟩
theorem twoTo_row (h : Shape r n s) (h' : Shape r n s') (hq : q < r + n) : (((twoTo s s' r q).mat (ofTwo r q).1).getD (ofTwo r q).2 []).length = n := by
  unfold ofTwo
  split
  · exact rect_row (mixA_rect h.ra h'.ra q) (by assumption)
  · exact rect_row (mixA_rect h.rv h'.rv (q - r)) (by omega)
theorem twoTo_ent (h : Shape r n s) (h' : Shape r n s') (j : Nat) : ent ((twoTo s s' r q).mat (ofTwo r q).1) (ofTwo r q).2 j = ent (s.mat (ofTwo r q).1) (ofTwo r q).2 j := by
  unfold ofTwo
  split
  · exact mixA_ent (by rw [h.ra.1, h'.ra.1]) q j
  · exact mixA_ent (by rw [h.rv.1, h'.rv.1]) (q - r) j
theorem twoTo_mat (h : Shape r n s) (h' : Shape r n s') : ((twoTo s s' r q).mat (ofTwo r q).1).getD (ofTwo r q).2 [] = (s.mat (ofTwo r q).1).getD (ofTwo r q).2 [] := by
  unfold ofTwo
  split
  · exact (mixA_getD (by rw [h.ra.1, h'.ra.1]) q q).trans (if_neg (by omega))
  · exact (mixA_getD (by rw [h.rv.1, h'.rv.1]) (q - r) (q - r)).trans (if_neg (by omega))
/-- the q-th row is written whole -/
theorem twoTo_set (h : Shape r n s) (h' : Shape r n s') {z : List Int} (hz : z = (s'.mat (ofTwo r q).1).getD (ofTwo r q).2 []) : (twoTo s s' r q).setMat (ofTwo r q).1 (((twoTo s s' r q).mat (ofTwo r q).1).set (ofTwo r q).2 z) = twoTo s s' r (q + 1) := by
  unfold ofTwo at *
  by_cases e : q < r
  · rw [if_pos e] at hz ⊢
    have h1 := mixA_set (m := s.a) (m' := s'.a) (c := q) (by rw [h.ra.1, h'.ra.1]) hz
    show S.mk ((mixA s.a s'.a q).set q z) s.u (mixA s.v s'.v (q - r)) s.t = S.mk (mixA s.a s'.a (q + 1)) s.u (mixA s.v s'.v (q + 1 - r)) s.t
    rw [h1, show q - r = 0 by omega, show q + 1 - r = 0 by omega]
  · rw [if_neg e] at hz ⊢
    have h1 := mixA_set (m := s.v) (m' := s'.v) (c := q - r) (by rw [h.rv.1, h'.rv.1]) hz
    show S.mk (mixA s.a s'.a q) s.u ((mixA s.v s'.v (q - r)).set (q - r) z) s.t = S.mk (mixA s.a s'.a (q + 1)) s.u (mixA s.v s'.v (q + 1 - r)) s.t
    rw [h1, show q + 1 - r = q - r + 1 by omega, mixA_full (m := s.a) (by rw [h.ra.1]; omega) (by rw [h'.ra.1]; omega), mixA_full (m := s.a) (by rw [h.ra.1]; omega) (by rw [h'.ra.1]; omega)]
end
/-- the rows of matrix k as values -/
def rowsV (s : S) (bl cs : Nat → Nat → Nat) (k : Nat) : List Value := (List.range (s.mat k).length).map fun i => .slice (some ⟨bl k i, 0, none⟩) ((s.mat k).getD i []).length (cs k i)
theorem rowsV_length (s : S) (bl cs : Nat → Nat → Nat) (k : Nat) : (rowsV s bl cs k).length = (s.mat k).length := by simp [rowsV]
section
variable {T b base : Nat} {w w' : World} {s : S} {x : Value} {vs : Nat → Value} {bl cs : Nat → Nat → Nat}
theorem WkM.slv (h : WkM T b base w s x vs bl cs) {k : Nat} (hk : k < 3) : SlV w (vs k) (rowsV s bl cs k) := ⟨sl_of_owns (h.out k hk), fun y hy => by
  simp only [rowsV, List.mem_map] at hy
  obtain ⟨i, -, rfl⟩ := hy
  rfl⟩
theorem owns_cells {base e n : Nat} {v : Value} {xs : List Value} (h : w.ownsRow base e 1 v n xs) (hn : 0 < n) : ∃ g c, v = .slice (some ⟨g, 0, none⟩) n c ∧ base ≤ g ∧ ∀ i, i < n → w.cell? ⟨g, i, none⟩ = xs[i]? := by
  obtain ⟨hl, ho⟩ := h
  rcases ho with ⟨-, h0⟩ | ⟨g, cap, cur, e, hb, hC, h1, hm, hs, ht⟩
  · omega
  · refine ⟨g, cap, e, hb, fun i hi => ?_⟩
    rw [cell_of_row _ _ _ _ _ _ hC, ← ht, List.getElem?_take, if_pos (by omega)]
    simp
theorem owns_other {base e n : Nat} (he : e ≠ 3) {v : Value} {xs : List Value} (h : w.ownsRow base e 1 v n xs) {b' k : Nat} {D : Array Value} {u : Value} (hb : w.heap[b']? = some (.cells D 3 (0, 0))) : (w.setCell ⟨b', k, none⟩ u).ownsRow base e 1 v n xs :=
  owns_keep h fun r hr => Below.heap_setCell w ⟨b', k, none⟩ u r fun e2 => by
    obtain ⟨-, C, hC⟩ := owns_block h r hr
    have e3 : r = b' := e2
    rw [e3, hb] at hC
    injection hC with h5
    injection h5 with _ h6 _
    exact he h6.symm
theorem rowsV_two {r n : Nat} (hs : Shape r n s) {q : Nat} (hq : q < r + n) : (rowsV s bl cs 0 ++ rowsV s bl cs 2)[q]? = some (.slice (some ⟨bl (ofTwo r q).1 (ofTwo r q).2, 0, none⟩) n (cs (ofTwo r q).1 (ofTwo r q).2)) := by
  unfold ofTwo
  have e0 : (s.mat 0).length = r := hs.ra.1
  have e2 : (s.mat 2).length = n := hs.rv.1
  split
  · rename_i h
    have h1 : ((s.mat 0).getD q []).length = n := rect_row hs.ra h
    rw [List.getElem?_append_left (by rw [rowsV_length, e0]; exact h)]
    simp only [rowsV, List.getElem?_map, e0, List.getElem?_range h, Option.map_some, h1]
  · rename_i h
    have h1 : ((s.mat 2).getD (q - r) []).length = n := rect_row hs.rv (by omega)
    rw [List.getElem?_append_right (by rw [rowsV_length, e0]; omega), rowsV_length, e0]
    simp only [rowsV, List.getElem?_map, e2, List.getElem?_range (show q - r < n by omega), Option.map_some, h1]
/-- slices.Concat of a and v -/
theorem cat_two {r n B : Nat} (hr : r ≤ 100000) (hn : n ≤ 100000) (hs : Shape r n s) (h : WkM T b base w s x vs bl cs) (hb : Below w.heap.size w w') (hB : w'.heap[B]? = some (.cells #[vs 0, vs 2] 22 (0, 0))) :
    Calls Try.prog 90 #[.slice (some ⟨B, 0, none⟩) 2 2] w' (ValsPost w'.heap.size (rowsV s bl cs 0 ++ rowsV s bl cs 2) w') := by
  have hcat := concat90_any w' (.slice (some ⟨B, 0, none⟩) 2 2) [rowsV s bl cs 0, rowsV s bl cs 2]
    ⟨[vs 0, vs 2], ⟨_, 2, 2, rfl, rfl, Nat.le_refl _, by simp [maxLen], fun _ => ⟨B, 0, rfl, fun j z hz => by
      rw [cell_of_row _ _ _ _ _ _ hB, Nat.zero_add]
      simpa using hz⟩⟩, rfl, fun i hi => by
      have h2 : i = 0 ∨ i = 1 := by simp at hi; omega
      rcases h2 with rfl | rfl
      · exact ⟨vs 0, rfl, (h.slv (by omega)).below hb⟩
      · exact ⟨vs 2, rfl, (h.slv (by omega)).below hb⟩⟩
    (by simp [catV, rowsV_length, show (s.mat 0).length = r from hs.ra.1, show (s.mat 2).length = n from hs.rv.1]; omega)
  have e : catV [rowsV s bl cs 0, rowsV s bl cs 2] ([rowsV s bl cs 0, rowsV s bl cs 2] : List (List Value)).length = rowsV s bl cs 0 ++ rowsV s bl cs 2 := by simp [catV]
  rw [e] at hcat
  exact hcat
theorem cat_two_len {r n : Nat} (hs : Shape r n s) : (rowsV s bl cs 0 ++ rowsV s bl cs 2).length = r + n := by
  rw [List.length_append, rowsV_length, rowsV_length, show (s.mat 0).length = r from hs.ra.1, show (s.mat 2).length = n from hs.rv.1]
end
theorem owns_at {w : World} {base e n g c : Nat} {xs : List Value} (h : w.ownsRow base e 1 (.slice (some ⟨g, 0, none⟩) n c) n xs) {i : Nat} (hi : i < n) : w.cell? ⟨g, i, none⟩ = xs[i]? := by
  obtain ⟨g', c', e, -, hc⟩ := owns_cells h (by omega)
  obtain rfl : g = g' := by injection e with e1; injection e1 with e2; injection e2
  exact hc i hi
theorem heap_alloc_one (w : World) (o o' : Obj) : ((w.alloc o).alloc o').drew.heap[w.heap.size]? = some o :=
  ((Below.refl (w.heap.size + 1) (w.alloc o)).alloc (by simp) o').drew.block w.heap.size (by omega) |>.trans (heap_alloc_new w o)
/-- column k, x times, may be added to column j -/
def FitC (m : Mat) (j k : Nat) (x : Int) : Prop := ∀ i, In64 (ent m i j) ∧ In64 (ent m i k) ∧ In64 (x * ent m i k) ∧ In64 (ent m i j + x * ent m i k)
theorem addC_row {m : Mat} (j k : Nat) (x : Int) (i : Nat) : (Sm.addC m j k x).getD i [] = (m.getD i []).set j (ent m i j + x * ent m i k) := by
  unfold Sm.addC ent
  rw [getD_map_ (d := []) (h := by simp)]
theorem addC_mat (s : S) (j k : Nat) (x : Int) {c : Nat} (hc : c = 0 ∨ c = 2) : (s.addC j k x).mat c = Sm.addC (s.mat c) j k x := by
  rcases hc with rfl | rfl <;> rfl
theorem ofTwo_or (r q : Nat) : (ofTwo r q).1 = 0 ∨ (ofTwo r q).1 = 2 := by unfold ofTwo; split <;> simp
set_option maxRecDepth 100000 in
set_option maxHeartbeats 1000000 in
theorem cadd126_any (base b j k r n : Nat) (q : Int) (w : World) (s : S) (x : Value) (hs : Shape r n s) (hj : j < n) (hk : k < n) (hr : r ≤ 100000) (hn : n ≤ 100000) (hS : Wk 66 b base w s x) (hbw : base ≤ w.heap.size) (hfa : FitC s.a j k q) (hfv : FitC s.v j k q) :
    Calls Try.prog 126 #[.agg #[.pointer (some ⟨b, 0, none⟩)], .int .i64 (j : Int), .int .i64 (k : Int), .int .i64 q] w fun e w' => e = .returned (.tuple #[]) ∧ Wk 66 b base w' (s.addC j k q) x ∧ Ch base w w' := by
  obtain ⟨vs, bl, cs, hM⟩ := hS
  obtain ⟨c0, c1, c2, c3, c4⟩ := hM.cells
  have hbl := hM.lt
  obtain ⟨A0, d0, hv0, -, -⟩ := hM.form (k := 0) (by omega)
  obtain ⟨A2, d2, hv2, -, -⟩ := hM.form (k := 2) (by omega)
  rw [show (s.mat 0).length = r from hs.ra.1] at hv0
  rw [show (s.mat 2).length = n from hs.rv.1] at hv2
  rw [hv0] at c0
  rw [hv2] at c2
  obtain ⟨N, hN⟩ : ∃ N, N = r + n := ⟨_, rfl⟩
  have HCAT : Hid (∀ w' B, Below w.heap.size w w' → w'.heap[B]? = some (.cells #[.slice A0 r d0, .slice A2 n d2] 22 (0, 0)) → Calls Try.prog 90 #[.slice (some ⟨B, 0, none⟩) 2 2] w' fun e w'' => ∃ A c, e = .returned (.slice A N c) ∧ w''.ownsRow w'.heap.size 25 1 (.slice A N c) N (rowsV s bl cs 0 ++ rowsV s bl cs 2) ∧ Below w'.heap.size w' w'') :=
    Lib.hid fun w' B hb hB => (cat_two hr hn hs hM hb (by rw [hv0, hv2]; exact hB)).mono fun e w'' ⟨A, c, h1, h2, h3⟩ => ⟨A, c, by rw [h1, cat_two_len hs, hN], by rw [cat_two_len hs, ← hN] at h2; exact h2, h3⟩
  have HN := Lib.hid hN
  have hN0 : 0 < N := by omega
  clear hN
  have HM := Lib.hid hM
  have HS := Lib.hid hs
  have HS' := Lib.hid (hs.addC j k q)
  have HF : Hid (∀ c, c = 0 ∨ c = 2 → FitC (s.mat c) j k q) := Lib.hid fun c hc => by
    rcases hc with rfl | rfl
    · exact hfa
    · exact hfv
  clear hM hs hfa hfv c1 c3 hv0 hv2
  have hk0 : (0 : Int) ≤ (k : Int) := Int.natCast_nonneg _
  have hj0 : (0 : Int) ≤ (j : Int) := Int.natCast_nonneg _
  have hkn : (k : Int) < (n : Int) := by omega
  have hjn : (j : Int) < (n : Int) := by omega
  go_enter Try.func126, Try.ntmps126
  go_wp2_with fail
  go_region_held3 (fun w' => w'.cell? ⟨w.heap.size, 0, none⟩ = some (.pointer (some ⟨b, 0, none⟩)) ∧ w'.cell? ⟨b, 0, none⟩ = some (.slice A0 r d0) ∧ w'.cell? ⟨b, 2, none⟩ = some (.slice A2 n d2)) (first | (with_reducible exact HS1.out) | go_keep)
    ((go_at_call 90; (refine (HCAT.out _ _ (below_two _ _ _) (heap_alloc_two _ _ _)).mono ?_); rintro e w1 ⟨A, c, rfl, ho, hb⟩; have HO := Lib.hid ho; have HS1 : Hid (w1.cell? ⟨w.heap.size, 0, none⟩ = some (.pointer (some ⟨b, 0, none⟩)) ∧ w1.cell? ⟨b, 0, none⟩ = some (.slice A0 r d0) ∧ w1.cell? ⟨b, 2, none⟩ = some (.slice A2 n d2)) := Lib.hid ⟨(hb.cell (p := ⟨w.heap.size, 0, none⟩) (by simp; omega)).trans (by rw [cell_of_row _ _ _ _ _ _ (heap_alloc_one _ _ _)]; rfl), ((below_two _ _ _).trans (hb.mono (below_two _ _ _).size)).cell (p := ⟨b, 0, none⟩) hbl |>.trans c0, ((below_two _ _ _).trans (hb.mono (below_two _ _ _).size)).cell (p := ⟨b, 2, none⟩) hbl |>.trans c2⟩; have HB := Lib.hid ((below_two _ _ _).trans (hb.mono (below_two _ _ _).size)); clear ho hb))
  obtain ⟨g, c', e, -, -⟩ := owns_cells HO.out hN0
  obtain rfl : c = c' := by injection e
  obtain rfl : A = some ⟨g, 0, none⟩ := by injection e
  clear e
  have hz1 := HB.out.size
  go_wp2_with fail
  go_loopw [23] (fun z wr => ∃ p : Nat, p ≤ N ∧ z = .int .i64 p ∧ Hid (WkM 66 b base wr (twoTo s (s.addC j k q) r p) x vs bl cs ∧ wr.ownsRow base 25 1 (.slice (some ⟨g, 0, none⟩) N c) N (rowsV s bl cs 0 ++ rowsV s bl cs 2) ∧ Ch base w wr)) (fun z _ => N - (intOf z).toNat)
  case atStart => exact ⟨0, by omega, rfl, Lib.hid ⟨by rw [twoTo_zero]; exact HM.out.below HB.out, owns_base HO.out (Nat.le_trans hbw (below_two _ _ _).size), Ch.of_below hbw HB.out⟩⟩
  case round =>
    obtain ⟨p, hp, rfl, HQ⟩ := hrel
    have hp0 : (0 : Int) ≤ (p : Int) := Int.natCast_nonneg _
    by_cases hlt : p < N
    · have hlt' : (p : Int) < (N : Int) := by omega
      have hpr : p < r + n := by have := HN.out; omega
      have hcell := owns_at HQ.out.2.1 hlt
      rw [rowsV_two HS.out hpr] at hcell
      have hl1 := twoTo_len HS.out HS'.out hpr
      have hl2 := twoTo_row HS.out HS'.out hpr
      have hkk := ofTwo_lt r p
      have hor := ofTwo_or r p
      have hpl : (ofTwo r p).2 < ((twoTo s (s.addC j k q) r p).mat (ofTwo r p).1).length := by rw [hl1.1]; exact hl1.2
      obtain ⟨q1, q2⟩ := HQ.out.1.ent_at (k := (ofTwo r p).1) (i := (ofTwo r p).2) (j := j) hkk hpl (by rw [hl2]; exact hj)
      obtain ⟨q3, -⟩ := HQ.out.1.ent_at (k := (ofTwo r p).1) (i := (ofTwo r p).2) (j := k) hkk hpl (by rw [hl2]; exact hk)
      rw [twoTo_ent HS.out HS'.out] at q1 q3
      obtain ⟨f1, f2, f3, f4⟩ := HF.out _ hor (ofTwo r p).2
      have hset := HQ.out.1.set (k := (ofTwo r p).1) (i := (ofTwo r p).2) (j := j) hkk hpl (by rw [hl2]; exact hj) (ent (s.mat (ofTwo r p).1) (ofTwo r p).2 j + q * ent (s.mat (ofTwo r p).1) (ofTwo r p).2 k)
      have hrow : ((twoTo s (s.addC j k q) r p).mat (ofTwo r p).1).getD (ofTwo r p).2 [] = (s.mat (ofTwo r p).1).getD (ofTwo r p).2 [] := twoTo_mat HS.out HS'.out
      rw [show put ((twoTo s (s.addC j k q) r p).mat (ofTwo r p).1) (ofTwo r p).2 j (ent (s.mat (ofTwo r p).1) (ofTwo r p).2 j + q * ent (s.mat (ofTwo r p).1) (ofTwo r p).2 k) = ((twoTo s (s.addC j k q) r p).mat (ofTwo r p).1).set (ofTwo r p).2 (((s.mat (ofTwo r p).1).getD (ofTwo r p).2 []).set j (ent (s.mat (ofTwo r p).1) (ofTwo r p).2 j + q * ent (s.mat (ofTwo r p).1) (ofTwo r p).2 k)) by unfold put; rw [hrow], twoTo_set HS.out HS'.out (by rw [addC_mat s j k q hor, addC_row])] at hset
      obtain ⟨D, hD⟩ := HQ.out.1.row_ty hkk hpl
      obtain ⟨hb1, -, hcs⟩ := HQ.out.1.row _ _ hkk hpl
      rw [hl2] at hcs
      obtain ⟨hcs1, hcs2⟩ := hcs
      have hown := owns_other (by decide) HQ.out.2.1 hD (k := j) (u := .int .i64 (ent (s.mat (ofTwo r p).1) (ofTwo r p).2 j + q * ent (s.mat (ofTwo r p).1) (ofTwo r p).2 k))
      have hbel := HQ.out.2.2.setCell hb1 hD (.inl rfl) j (.int .i64 (ent (s.mat (ofTwo r p).1) (ofTwo r p).2 j + q * ent (s.mat (ofTwo r p).1) (ofTwo r p).2 k))
      have HNX := Lib.hid (And.intro hset (And.intro hown hbel))
      clear hset hown hbel hrow hl1 hl2 hpl hor hkk hD hb1
      generalize ent (s.mat (ofTwo r p).1) (ofTwo r p).2 j = z at *
      generalize ent (s.mat (ofTwo r p).1) (ofTwo r p).2 k = y at *
      generalize bl (ofTwo r p).1 (ofTwo r p).2 = B1 at *
      generalize cs (ofTwo r p).1 (ofTwo r p).2 = C1 at *
      obtain ⟨f1a, f1b⟩ := f1
      obtain ⟨f2a, f2b⟩ := f2
      obtain ⟨f3a, f3b⟩ := f3
      obtain ⟨f4a, f4b⟩ := f4
      clear hN0 hz1
      go_wp2_with fail
      go_region
      go_wp2_with fail
      go_roundw
      case rel => exact ⟨p + 1, by omega, by go_num, Lib.hid ⟨HNX.out.1.drewN 1, owns_keep HNX.out.2.1 (fun _ _ => rfl), HNX.out.2.2.drew⟩⟩
      case measure => simp [intOf]; omega
    · obtain rfl : p = N := by omega
      go_wp2_with fail
      go_end0
      exact ⟨rfl, ⟨vs, bl, cs, by have := HQ.out.1; rw [HN.out, twoTo_full HS.out HS'.out rfl rfl] at this; exact this⟩, HQ.out.2.2⟩
end Go.Proofs
namespace Go.Proofs
open Go.RowKit Go.Shelf Go.Proofs.Sm
theorem swC_row {m : Mat} (j k : Nat) (i : Nat) : (Sm.swC m j k).getD i [] = ((m.getD i []).set j (ent m i k)).set k (ent m i j) := by
  unfold Sm.swC ent
  rw [getD_map_ (d := []) (h := by simp)]
theorem swC_mat (s : S) (j k : Nat) {c : Nat} (hc : c = 0 ∨ c = 2) : (s.swC j k).mat c = Sm.swC (s.mat c) j k := by
  rcases hc with rfl | rfl <;> rfl
theorem put_put (m : Mat) (i j k : Nat) (y z : Int) : put (put m i j y) i k z = m.set i (((m.getD i []).set j y).set k z) := by
  unfold put
  rw [getD_set_, List.set_set]
  by_cases h : i < m.length
  · rw [if_pos ⟨rfl, h⟩]
  · rw [List.set_eq_of_length_le (by omega), List.set_eq_of_length_le (by omega)]
set_option maxRecDepth 100000 in
set_option maxHeartbeats 1000000 in
theorem cswap72_any (base b j k r n : Nat) (w : World) (s : S) (x : Value) (hs : Shape r n s) (hj : j < n) (hk : k < n) (hr : r ≤ 100000) (hn : n ≤ 100000) (hS : Wk 66 b base w s x) (hbw : base ≤ w.heap.size) :
    Calls Try.prog 72 #[.agg #[.pointer (some ⟨b, 0, none⟩)], .int .i64 (j : Int), .int .i64 (k : Int)] w fun e w' => e = .returned (.tuple #[]) ∧ Wk 66 b base w' (s.swC j k) x ∧ Ch base w w' := by
  obtain ⟨vs, bl, cs, hM⟩ := hS
  obtain ⟨c0, c1, c2, c3, c4⟩ := hM.cells
  have hbl := hM.lt
  obtain ⟨A0, d0, hv0, -, -⟩ := hM.form (k := 0) (by omega)
  obtain ⟨A2, d2, hv2, -, -⟩ := hM.form (k := 2) (by omega)
  rw [show (s.mat 0).length = r from hs.ra.1] at hv0
  rw [show (s.mat 2).length = n from hs.rv.1] at hv2
  rw [hv0] at c0
  rw [hv2] at c2
  obtain ⟨N, hN⟩ : ∃ N, N = r + n := ⟨_, rfl⟩
  have HCAT : Hid (∀ w' B, Below w.heap.size w w' → w'.heap[B]? = some (.cells #[.slice A0 r d0, .slice A2 n d2] 22 (0, 0)) → Calls Try.prog 90 #[.slice (some ⟨B, 0, none⟩) 2 2] w' fun e w'' => ∃ A c, e = .returned (.slice A N c) ∧ w''.ownsRow w'.heap.size 25 1 (.slice A N c) N (rowsV s bl cs 0 ++ rowsV s bl cs 2) ∧ Below w'.heap.size w' w'') :=
    Lib.hid fun w' B hb hB => (cat_two hr hn hs hM hb (by rw [hv0, hv2]; exact hB)).mono fun e w'' ⟨A, c, h1, h2, h3⟩ => ⟨A, c, by rw [h1, cat_two_len hs, hN], by rw [cat_two_len hs, ← hN] at h2; exact h2, h3⟩
  have HN := Lib.hid hN
  have hN0 : 0 < N := by omega
  clear hN
  have HM := Lib.hid hM
  have HS := Lib.hid hs
  have HS' := Lib.hid (hs.swC j k)
  clear hM hs c1 c3 hv0 hv2
  have hk0 : (0 : Int) ≤ (k : Int) := Int.natCast_nonneg _
  have hj0 : (0 : Int) ≤ (j : Int) := Int.natCast_nonneg _
  have hkn : (k : Int) < (n : Int) := by omega
  have hjn : (j : Int) < (n : Int) := by omega
  go_enter Try.func72, Try.ntmps72
  go_wp2_with fail
  go_region_held3 (fun w' => w'.cell? ⟨w.heap.size, 0, none⟩ = some (.pointer (some ⟨b, 0, none⟩)) ∧ w'.cell? ⟨b, 0, none⟩ = some (.slice A0 r d0) ∧ w'.cell? ⟨b, 2, none⟩ = some (.slice A2 n d2)) (first | (with_reducible exact HS1.out) | go_keep)
    ((go_at_call 90; (refine (HCAT.out _ _ (below_two _ _ _) (heap_alloc_two _ _ _)).mono ?_); rintro e w1 ⟨A, c, rfl, ho, hb⟩; have HO := Lib.hid ho; have HS1 : Hid (w1.cell? ⟨w.heap.size, 0, none⟩ = some (.pointer (some ⟨b, 0, none⟩)) ∧ w1.cell? ⟨b, 0, none⟩ = some (.slice A0 r d0) ∧ w1.cell? ⟨b, 2, none⟩ = some (.slice A2 n d2)) := Lib.hid ⟨(hb.cell (p := ⟨w.heap.size, 0, none⟩) (by simp; omega)).trans (by rw [cell_of_row _ _ _ _ _ _ (heap_alloc_one _ _ _)]; rfl), ((below_two _ _ _).trans (hb.mono (below_two _ _ _).size)).cell (p := ⟨b, 0, none⟩) hbl |>.trans c0, ((below_two _ _ _).trans (hb.mono (below_two _ _ _).size)).cell (p := ⟨b, 2, none⟩) hbl |>.trans c2⟩; have HB := Lib.hid ((below_two _ _ _).trans (hb.mono (below_two _ _ _).size)); clear ho hb))
  obtain ⟨g, c', e, -, -⟩ := owns_cells HO.out hN0
  obtain rfl : c = c' := by injection e
  obtain rfl : A = some ⟨g, 0, none⟩ := by injection e
  clear e
  have hz1 := HB.out.size
  go_wp2_with fail
  go_loopw [21] (fun z wr => ∃ p : Nat, p ≤ N ∧ z = .int .i64 p ∧ Hid (WkM 66 b base wr (twoTo s (s.swC j k) r p) x vs bl cs ∧ wr.ownsRow base 25 1 (.slice (some ⟨g, 0, none⟩) N c) N (rowsV s bl cs 0 ++ rowsV s bl cs 2) ∧ Ch base w wr)) (fun z _ => N - (intOf z).toNat)
  case atStart => exact ⟨0, by omega, rfl, Lib.hid ⟨by rw [twoTo_zero]; exact HM.out.below HB.out, owns_base HO.out (Nat.le_trans hbw (below_two _ _ _).size), Ch.of_below hbw HB.out⟩⟩
  case round =>
    obtain ⟨p, hp, rfl, HQ⟩ := hrel
    have hp0 : (0 : Int) ≤ (p : Int) := Int.natCast_nonneg _
    by_cases hlt : p < N
    · have hlt' : (p : Int) < (N : Int) := by omega
      have hpr : p < r + n := by have := HN.out; omega
      have hcell := owns_at HQ.out.2.1 hlt
      rw [rowsV_two HS.out hpr] at hcell
      have hl1 := twoTo_len HS.out HS'.out hpr
      have hl2 := twoTo_row HS.out HS'.out hpr
      have hkk := ofTwo_lt r p
      have hor := ofTwo_or r p
      have hpl : (ofTwo r p).2 < ((twoTo s (s.swC j k) r p).mat (ofTwo r p).1).length := by rw [hl1.1]; exact hl1.2
      obtain ⟨q1, q2⟩ := HQ.out.1.ent_at (k := (ofTwo r p).1) (i := (ofTwo r p).2) (j := j) hkk hpl (by rw [hl2]; exact hj)
      obtain ⟨q3, -⟩ := HQ.out.1.ent_at (k := (ofTwo r p).1) (i := (ofTwo r p).2) (j := k) hkk hpl (by rw [hl2]; exact hk)
      rw [twoTo_ent HS.out HS'.out] at q1 q3
      have hset1 := HQ.out.1.set (k := (ofTwo r p).1) (i := (ofTwo r p).2) (j := j) hkk hpl (by rw [hl2]; exact hj) (ent (s.mat (ofTwo r p).1) (ofTwo r p).2 k)
      have hm1 : ((twoTo s (s.swC j k) r p).setMat (ofTwo r p).1 (put ((twoTo s (s.swC j k) r p).mat (ofTwo r p).1) (ofTwo r p).2 j (ent (s.mat (ofTwo r p).1) (ofTwo r p).2 k))).mat (ofTwo r p).1 = put ((twoTo s (s.swC j k) r p).mat (ofTwo r p).1) (ofTwo r p).2 j (ent (s.mat (ofTwo r p).1) (ofTwo r p).2 k) := mat_set_self _ _ _
      have hset := hset1.set (k := (ofTwo r p).1) (i := (ofTwo r p).2) (j := k) hkk (by rw [hm1, length_put]; exact hpl) (by rw [hm1, rowlen_put, hl2]; exact hk) (ent (s.mat (ofTwo r p).1) (ofTwo r p).2 j)
      rw [hm1, setMat_setMat, put_put] at hset
      have hrow : ((twoTo s (s.swC j k) r p).mat (ofTwo r p).1).getD (ofTwo r p).2 [] = (s.mat (ofTwo r p).1).getD (ofTwo r p).2 [] := twoTo_mat HS.out HS'.out
      rw [hrow, twoTo_set HS.out HS'.out (by rw [swC_mat s j k hor, swC_row])] at hset
      obtain ⟨D, hD⟩ := HQ.out.1.row_ty hkk hpl
      obtain ⟨hb1, -, hcs⟩ := HQ.out.1.row _ _ hkk hpl
      rw [hl2] at hcs
      obtain ⟨hcs1, hcs2⟩ := hcs
      have hD2 : ∃ D2, (wr.setCell ⟨bl (ofTwo r p).1 (ofTwo r p).2, j, none⟩ (.int .i64 (ent (s.mat (ofTwo r p).1) (ofTwo r p).2 k))).heap[bl (ofTwo r p).1 (ofTwo r p).2]? = some (.cells D2 3 (0, 0)) := hset1.row_ty hkk (by rw [hm1, length_put]; exact hpl)
      obtain ⟨D2, hD2⟩ := hD2
      have hown := owns_other (by decide) (owns_other (by decide) HQ.out.2.1 hD (k := j) (u := .int .i64 (ent (s.mat (ofTwo r p).1) (ofTwo r p).2 k))) hD2 (k := k) (u := .int .i64 (ent (s.mat (ofTwo r p).1) (ofTwo r p).2 j))
      have hbel := (HQ.out.2.2.setCell hb1 hD (.inl rfl) j (.int .i64 (ent (s.mat (ofTwo r p).1) (ofTwo r p).2 k))).setCell hb1 hD2 (.inl rfl) k (.int .i64 (ent (s.mat (ofTwo r p).1) (ofTwo r p).2 j))
      have HNX := Lib.hid (And.intro hset (And.intro hown hbel))
      obtain ⟨-, q4⟩ := HQ.out.1.ent_at (k := (ofTwo r p).1) (i := (ofTwo r p).2) (j := k) hkk hpl (by rw [hl2]; exact hk)
      clear hset hset1 hm1 hown hbel hrow hl1 hl2 hpl hor hkk hD hD2 hb1
      generalize ent (s.mat (ofTwo r p).1) (ofTwo r p).2 j = z at *
      generalize ent (s.mat (ofTwo r p).1) (ofTwo r p).2 k = y at *
      generalize bl (ofTwo r p).1 (ofTwo r p).2 = B1 at *
      generalize cs (ofTwo r p).1 (ofTwo r p).2 = C1 at *
      clear hN0 hz1
      by_cases hjk : j = k
      · subst hjk
        obtain rfl : z = y := by rw [q1] at q3; injection q3 with e1; injection e1
        clear q3
        go_wp2_with fail
        go_region
        go_wp2_with fail
        go_roundw
        case rel => exact ⟨p + 1, by omega, by go_num, Lib.hid ⟨HNX.out.1.drewN 1, owns_keep HNX.out.2.1 (fun _ _ => rfl), HNX.out.2.2.drew⟩⟩
        case measure => simp [intOf]; omega
      · have hkj : k ≠ j := fun e => hjk e.symm
        go_wp2_with fail
        go_region
        go_wp2_with fail
        go_roundw
        case rel => exact ⟨p + 1, by omega, by go_num, Lib.hid ⟨HNX.out.1.drewN 1, owns_keep HNX.out.2.1 (fun _ _ => rfl), HNX.out.2.2.drew⟩⟩
        case measure => simp [intOf]; omega
    · obtain rfl : p = N := by omega
      go_wp2_with fail
      go_end0
      exact ⟨rfl, ⟨vs, bl, cs, by have := HQ.out.1; rw [HN.out, twoTo_full HS.out HS'.out rfl rfl] at this; exact this⟩, HQ.out.2.2⟩
/-- the rows of the first c of the matrices a, u change places -/
def swTo (s : S) (i k : Nat) : Nat → S
  | 0 => s
  | 1 => s.setMat 0 (Sm.swR s.a i k)
  | _ => s.swR i k
theorem swTo_succ (s : S) (i k : Nat) {c : Nat} (hc : c < 2) : (swTo s i k c).setMat c (Sm.swR (s.mat c) i k) = swTo s i k (c + 1) := by
  obtain rfl | rfl : c = 0 ∨ c = 1 := by omega
  all_goals rfl
theorem swTo_mat (s : S) (i k : Nat) {c : Nat} (hc : c < 2) : (swTo s i k c).mat c = s.mat c := by
  obtain rfl | rfl : c = 0 ∨ c = 1 := by omega
  all_goals rfl
theorem lit25_keep {w : World} {B : Nat} {C : Array Value} {b' k : Nat} {D : Array Value} {v : Value} (h : w.heap[B]? = some (.cells C 22 (0, 0))) (hb : w.heap[b']? = some (.cells D 25 (0, 0))) : (w.setCell ⟨b', k, none⟩ v).heap[B]? = some (.cells C 22 (0, 0)) := by
  rw [Below.heap_setCell w ⟨b', k, none⟩ v B fun e => ?_]
  · exact h
  · have e' : B = b' := e
    rw [e', hb] at h
    cases h
theorem box_set {w : World} {b : Nat} {C : Array Value} {T : TypeId} (hb : w.heap[b]? = some (.cells C T (0, 0))) (k : Nat) (v : Value) : (w.setCell ⟨b, k, none⟩ v).heap[b]? = some (.cells (C.setIfInBounds k v) T (0, 0)) := by
  simp [World.setCell, Array.getElem?_modify, hb]
set_option maxRecDepth 100000 in
set_option maxHeartbeats 1000000 in
theorem rswap71_any (base b i k r n : Nat) (w : World) (s : S) (x : Value) (hs : Shape r n s) (hi : i < r) (hk : k < r) (hS : Wk 66 b base w s x) (hbw : base ≤ w.heap.size) :
    Calls Try.prog 71 #[.agg #[.pointer (some ⟨b, 0, none⟩)], .int .i64 (i : Int), .int .i64 (k : Int)] w fun e w' => e = .returned (.tuple #[]) ∧ Wk 66 b base w' (s.swR i k) x ∧ Ch base w w' := by
  obtain ⟨vs, bl, cs, hM⟩ := hS
  obtain ⟨c0, c1, c2, c3, c4⟩ := hM.cells
  have hbl := hM.lt
  obtain ⟨A0, d0, hv0, -, -⟩ := hM.form (k := 0) (by omega)
  obtain ⟨A1, d1, hv1, -, -⟩ := hM.form (k := 1) (by omega)
  rw [show (s.mat 0).length = r from hs.ra.1] at hv0
  rw [show (s.mat 1).length = r from hs.ru.1] at hv1
  rw [hv0] at c0
  rw [hv1] at c1
  have HV0 := Lib.hid hv0
  have HV1 := Lib.hid hv1
  have HM := Lib.hid hM
  have HS := Lib.hid hs
  clear hM hs c2 c3 hv0 hv1
  have hk0 : (0 : Int) ≤ (k : Int) := Int.natCast_nonneg _
  have hi0 : (0 : Int) ≤ (i : Int) := Int.natCast_nonneg _
  go_enter Try.func71, Try.ntmps71
  go_wp2_with fail
  go_region
  go_wp2_with fail
  go_loopw [20] (fun z wr => ∃ c : Nat, c ≤ 2 ∧ z = .int .i64 c ∧ Hid ((∃ bl cs, WkM 66 b base wr (swTo s i k c) x vs bl cs) ∧ wr.heap[w.heap.size + 1]? = some (.cells #[vs 0, vs 1] 22 (0, 0)) ∧ Ch base w wr)) (fun z _ => 2 - (intOf z).toNat)
  case atStart => exact ⟨0, by omega, rfl, Lib.hid ⟨⟨bl, cs, HM.out.below (below_two _ _ _)⟩, by rw [HV0.out, HV1.out]; exact heap_alloc_two _ _ _, Ch.of_below hbw (below_two _ _ _)⟩⟩
  case round =>
    obtain ⟨c, hc, rfl, HR⟩ := hrel
    have hcc0 : (0 : Int) ≤ (c : Int) := Int.natCast_nonneg _
    by_cases hlt : c < 2
    · have hlt' : (c : Int) < 2 := by omega
      obtain ⟨L, hR⟩ : ∃ L, Rect (s.mat c) r L := by
        obtain rfl | rfl : c = 0 ∨ c = 1 := by omega
        · exact ⟨n, HS.out.ra⟩
        · exact ⟨r, HS.out.ru⟩
      obtain ⟨⟨bl', cs', hW⟩, hlb, hbel⟩ := HR.out
      have hlen : ((swTo s i k c).mat c).length = r := by rw [swTo_mat s i k hlt]; exact hR.1
      have hrl : ∀ p, p < r → (((swTo s i k c).mat c).getD p []).length = L := fun p hp => by rw [swTo_mat s i k hlt]; exact rect_row hR hp
      obtain ⟨g, d, hv, hg1, hg2, hbg⟩ := hW.row_at (k := c) (i := i) (by omega) (by rw [hlen]; exact hi)
      rw [hrl i hi] at hg1
      rw [hlen] at hv
      obtain ⟨g', d', hv', hg3, hg4, -⟩ := hW.row_at (k := c) (i := k) (by omega) (by rw [hlen]; exact hk)
      rw [hrl k hk] at hg3
      rw [hlen, hv] at hv'
      obtain rfl : g = g' := by injection hv' with e1; injection e1 with e2; injection e2
      have hlit : wr.cell? ⟨w.heap.size + 1, c, none⟩ = some (.slice (some ⟨g, 0, none⟩) r d) := by
        rw [cell_of_row _ _ _ _ _ _ hlb]
        obtain rfl | rfl : c = 0 ∨ c = 1 := by omega
        · rw [← hv]; rfl
        · rw [← hv]; rfl
      have hsw := hW.swap (k := c) (i := i) (j := k) (g := g) (by omega) (by rw [hlen]; exact hi) (by rw [hlen]; exact hk) (by rw [hv]; rfl)
      rw [hrl i hi, hrl k hk, swTo_mat s i k hlt, swTo_succ s i k hlt] at hsw
      obtain ⟨-, D, hD⟩ := owns_block (hW.out c (by omega)) g (by rw [hv]; rfl)
      have hlk := lit25_keep (k := k) (v := .slice (some ⟨bl' c i, 0, none⟩) L (cs' c i)) (lit25_keep (k := i) (v := .slice (some ⟨bl' c k, 0, none⟩) L (cs' c k)) hlb hD) (box_set hD i _)
      have hbl2 := (hbel.setCell hbg hD (.inr (.inl rfl)) i (.slice (some ⟨bl' c k, 0, none⟩) L (cs' c k))).setCell hbg (box_set hD i _) (.inr (.inl rfl)) k (.slice (some ⟨bl' c i, 0, none⟩) L (cs' c i))
      have HN := Lib.hid (And.intro hsw (And.intro hlk hbl2))
      clear hsw hlk hbl2 hlen hrl hv hv' hR hD hlb hbel hW
      have hkr : (k : Int) < (r : Int) := by omega
      have hir : (i : Int) < (r : Int) := by omega
      by_cases hik : i = k
      · subst hik
        clear hg3 hg4
        go_wp2_with fail
        go_region
        go_wp2_with fail
        go_roundw
        case rel => exact ⟨c + 1, by omega, by go_num, Lib.hid ⟨⟨_, _, HN.out.1.drewN 1⟩, HN.out.2.1, HN.out.2.2.drew⟩⟩
        case measure => simp [intOf]; omega
      · have hki : k ≠ i := fun e => hik e.symm
        go_wp2_with fail
        go_region
        go_wp2_with fail
        go_roundw
        case rel => exact ⟨c + 1, by omega, by go_num, Lib.hid ⟨⟨_, _, HN.out.1.drewN 1⟩, HN.out.2.1, HN.out.2.2.drew⟩⟩
        case measure => simp [intOf]; omega
    · obtain rfl : c = 2 := by omega
      obtain ⟨⟨bl', cs', hW⟩, -, hbel⟩ := HR.out
      have HW := Lib.hid hW
      have HBL := Lib.hid hbel
      clear hW hbel
      go_wp2_with fail
      go_end0
      exact ⟨rfl, ⟨vs, bl', cs', HW.out⟩, HBL.out⟩
end Go.Proofs
namespace Go.Proofs
open Go.RowKit Go.Shelf Go.Proofs.Sm
/-- function g, bound to lb, answers p at the numbers that ok allows, in w and behind draws -/
def PredW (g : Nat) (lb : Array Value) (ok : Int → Prop) (p : Int → Bool) (w : World) : Prop :=
  ∀ (x : Int) (q : Nat), ok x → Calls Try.prog g (#[.int .i64 x] ++ lb) (w.drewN q) fun e w' => e = .returned (.bool (p x)) ∧ ∃ q', w' = w.drewN q'
def IdxSaid (b : Bool) (e : Ending) : Prop := ∃ r : Int, e = .returned (.int .i64 r) ∧ decide (0 ≤ r) = b
theorem any_false_of {p : Int → Bool} {xs : List Int} (h : ∀ j, j < xs.length → p (xs.getD j 0) = false) : xs.any p = false := by
  rw [List.any_eq_false]
  intro x hx
  obtain ⟨c, hc, rfl⟩ := List.mem_iff_getElem.1 hx
  have := h c hc
  rw [List.getD_eq_getElem?_getD, List.getElem?_eq_getElem hc] at this
  simpa using this
theorem any_true_of {p : Int → Bool} {xs : List Int} {k : Nat} (hk : k < xs.length) (h : p (xs.getD k 0) = true) : xs.any p = true := by
  rw [List.any_eq_true]
  rw [List.getD_eq_getElem?_getD, List.getElem?_eq_getElem hk] at h
  exact ⟨_, List.getElem_mem hk, h⟩
section
variable (g : Nat) (lb : Array Value) (ok : Int → Prop) (p : Int → Bool) (w : World) (eg : ∀ args w, (callFunc g args).run Try.prog w = .ok (.enter g args) w) (hp : PredW g lb ok p w) (v : Value) (xs : List Int) (h : IntsAt w v xs) (hok : ∀ x ∈ xs, ok x)
include eg hp h hok
set_option maxHeartbeats 400000 in
theorem idx60_any : Calls Try.prog 60 #[v, .func (.func g) #[] lb] w fun e w' => IdxSaid (xs.any p) e ∧ ∃ q, w' = w.drewN q := by
  obtain ⟨A, c, rfl, hc1, hc2, hc⟩ := h.open_
  have HC := Lib.hid hc
  have HP := Lib.hid hp
  have HK := Lib.hid hok
  clear hc hp h hok
  go_enter Try.func60, Try.ntmps60
  go_wp2_with fail
  go_loopw [5, 8] (fun _ i wr => ∃ k : Nat, k ≤ xs.length ∧ i = .int .i64 k ∧ (∀ j, j < k → p (xs.getD j 0) = false) ∧ ∃ q, wr = w.drewN q) (fun _ i _ => xs.length - (intOf i).toNat)
  case atStart => exact ⟨0, Nat.zero_le _, rfl, fun j hj => absurd hj (by omega), 0, rfl⟩
  case round =>
    obtain ⟨k, hk, rfl, hz, q, rfl⟩ := hrel
    have HZ := Lib.hid hz
    clear hz
    by_cases hlt : k < xs.length
    · obtain ⟨b, o, rfl, hcc⟩ := HC.out (by omega)
      have hck := hcc k hlt
      have hx : ok (xs.getD k 0) := HK.out _ (by rw [List.getD_eq_getElem?_getD, List.getElem?_eq_getElem hlt]; exact List.getElem_mem hlt)
      clear hcc
      have HA := Lib.hid (any_true_of (p := p) hlt)
      generalize hxe : xs.getD k 0 = x at *
      have HXE := Lib.hid hxe
      clear hxe
      have HX := Lib.hid hx
      clear hx
      have hcall := HP.out x q HX.out
      cases hq : p x with
      | true =>
        rw [hq] at hcall
        have HQ := Lib.hid hq
        clear hq
        have HCALL := Lib.hid hcall
        clear hcall
        go_wp2_with (go_at_fn g; (refine HCALL.out.mono ?_); rintro e w' ⟨rfl, q', rfl⟩)
        go_ret
        exact ⟨⟨k, rfl, by rw [HA.out HQ.out]; simp⟩, _, rfl⟩
      | false =>
        rw [hq] at hcall
        have HQ := Lib.hid hq
        clear hq
        have HCALL := Lib.hid hcall
        clear hcall
        go_wp2_with (go_at_fn g; (refine HCALL.out.mono ?_); rintro e w' ⟨rfl, q', rfl⟩)
        go_roundw
        case rel => exact ⟨k + 1, by omega, by go_num, all_succ HZ.out (by rw [HXE.out]; exact HQ.out), _, rfl⟩
        case measure => simp [intOf]; omega
    · obtain rfl : k = xs.length := by omega
      go_wp2_with fail
      go_ret
      exact ⟨⟨-1, rfl, by rw [any_false_of HZ.out]; rfl⟩, _, rfl⟩
theorem has41_any : Calls Try.prog 41 #[v, .func (.func g) #[] lb] w fun e w' => e = .returned (.bool (xs.any p)) ∧ ∃ q, w' = w.drewN q := by
  have hcon := Lib.hid (idx60_any g lb ok p w eg hp v xs h hok)
  clear hp h hok
  go_enter Try.func41, Try.ntmps41
  go_wp2_with (go_at_call 60; (refine hcon.out.mono ?_); rintro e w' ⟨⟨r, rfl, hr⟩, q, rfl⟩; have HR := Lib.hid hr; clear hr)
  go_ret
  exact ⟨ret_bool HR.out, _, rfl⟩
end
theorem eg105 : ∀ args w, (callFunc 105 args).run Try.prog w = .ok (.enter 105 args) w := enters_of Try.func105 (by kernel_rfl) rfl
theorem eg42 : ∀ args w, (callFunc 42 args).run Try.prog w = .ok (.enter 42 args) w := enters_of Try.func42 (by kernel_rfl) rfl
/-- the absolute value -/
theorem size70_any (x : Int) (w : World) (h1 : -9000000000000000000 ≤ x) (h2 : x ≤ 9000000000000000000) : Calls Try.prog 70 #[.int .i64 x] w fun e w' => e = .returned (.int .i64 (x.natAbs : Int)) ∧ w = w' := by
  go_enter Try.func70, Try.ntmps70
  go_wp2_with fail
  all_goals
    go_ret
    exact ⟨ret_int (by omega), rfl⟩
def Mid (x : Int) : Prop := -9000000000000000000 ≤ x ∧ x ≤ 9000000000000000000
theorem pred105 (w : World) : PredW 105 #[] Mid (fun x => !small x) w := fun x q hx => by
  have hs := Lib.hid fun w' => size70_any x w' hx.1 hx.2
  have e : (decide (1000000000 < (x.natAbs : Int))) = !small x := by
    unfold small
    by_cases h : -1000000000 ≤ x ∧ x ≤ 1000000000
    · rw [decide_eq_true h, decide_eq_false (by omega)]; rfl
    · rw [decide_eq_false h, decide_eq_true (by omega)]; rfl
  have HE := Lib.hid e
  clear e hx
  show Calls Try.prog 105 #[.int .i64 x] (w.drewN q) _
  go_enter Try.func105, Try.ntmps105
  go_wp2_with (go_at_call 70; (refine (hs.out _).mono ?_); rintro e w' ⟨rfl, rfl⟩)
  go_ret
  exact ⟨ret_bool HE.out, _, rfl⟩
/-- an entry of a relation matrix -/
def entryB (x : Int) : Bool := decide (-1000000 ≤ x ∧ x ≤ 1000000)
theorem pred42 (w : World) : PredW 42 #[] In64 (fun x => !entryB x) w := fun x q hx => by
  obtain ⟨h1, h2⟩ := hx
  show Calls Try.prog 42 #[.int .i64 x] (w.drewN q) _
  by_cases c1 : x < -1000000
  · have e : (!entryB x) = true := by unfold entryB; rw [decide_eq_false (by omega)]; rfl
    have HE := Lib.hid e
    clear e
    have d1 : decide (x < -1000000) = true := decide_eq_true c1
    go_enter Try.func42, Try.ntmps42
    go_wp2_with fail
    go_ret
    exact ⟨ret_bool HE.out.symm, _, rfl⟩
  · have d1 : decide (x < -1000000) = false := decide_eq_false c1
    have e : (!entryB x) = decide (1000000 < x) := by
      unfold entryB
      by_cases c2 : 1000000 < x
      · rw [decide_eq_false (by omega), decide_eq_true c2]; rfl
      · rw [decide_eq_true (by omega), decide_eq_false c2]; rfl
    have HE := Lib.hid e
    clear e
    go_enter Try.func42, Try.ntmps42
    go_wp2_with fail
    go_ret
    exact ⟨ret_bool HE.out.symm, _, rfl⟩
end Go.Proofs
