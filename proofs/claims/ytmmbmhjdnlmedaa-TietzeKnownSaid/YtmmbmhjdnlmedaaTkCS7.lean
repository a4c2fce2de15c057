/- slices.CompactFunc at words: what a list under way is; slices.CompactFunc at words, by pres.equal; rewrite.Rewrite; Presentations: which are valid, plainly; the letters of a word; pres.Check; Columns of letters; where a word leads; fine; Complete; Holds: the plain law; the closures of coset.Holds; coset.Holds; The reference's system in memory: its box, its rows of numbers; The reference's system under construction; The reference's rewrite of a system; rewrite.Present: what it answers; structs of type 40; the relators under way; rewrite.Present. -/
import Derived.Test.YtmmbmhjdnlmedaaTkCS6
import Derived.Lib.SliceRun
import Derived.Lib.EndianMore
import Derived.Test.YtmmbmhjdnlmedaaTkCS5
import Derived.Test.YtmmbmhjdnlmedaaTkCS3
import Derived.Test.YtmmbmhjdnlmedaaTkCS2
namespace Go.Proofs
open Go.RowKit Go.Shelf Go.Lib Go.Sort Go.Proofs.Ct Go.Proofs.Tz
theorem compactL_snoc : ∀ (l : List (List Int)) (x : List Int), compactL (l ++ [x]) = if l.getLast? = some x then compactL l else compactL l ++ [x]
  | [], x => by simp [compactL]
  | [y], x => by
    by_cases h : y = x
    · subst h; simp [compactL]
    · simp [compactL, h]
  | y :: z :: l, x => by
    have ih := compactL_snoc (z :: l) x
    have e : (y :: z :: l).getLast? = (z :: l).getLast? := by simp [List.getLast?_cons_cons]
    rw [e]
    show compactL (y :: z :: (l ++ [x])) = _
    unfold compactL
    by_cases h : y = z
    · rw [if_pos h, if_pos h]; exact ih
    · rw [if_neg h, if_neg h]
      have ih' : compactL (z :: (l ++ [x])) = _ := ih
      rw [ih']
      split <;> simp
theorem compact_take {xs : List (List Int)} {m : Nat} (h1 : 1 ≤ m) (h2 : m < xs.length) : compactL (xs.take (m + 1)) = if xs.getD m [] = xs.getD (m - 1) [] then compactL (xs.take m) else compactL (xs.take m) ++ [xs.getD m []] := by
  rw [List.take_succ_eq_append_getElem h2, compactL_snoc]
  have e1 : xs.getD m [] = xs[m] := by simp [List.getD_eq_getElem?_getD, h2]
  have e2 : (xs.take m).getLast? = some (xs.getD (m - 1) []) := by
    rw [List.getLast?_eq_getElem?, List.length_take, List.getElem?_take, if_pos (by omega), Nat.min_eq_left (by omega), List.getElem?_eq_getElem (show m - 1 < xs.length by omega)]
    simp [List.getD_eq_getElem?_getD, show m - 1 < xs.length by omega]
  rw [e1, e2]
  by_cases h : xs[m] = xs.getD (m - 1) []
  · rw [if_pos h, if_pos (by rw [h])]
  · rw [if_neg h, if_neg (fun e => h (Option.some.inj e).symm)]
theorem RowsF.take {F : Nat → Prop} {w : World} {vals : List Value} {xs : List (List Int)} (h : RowsF F w vals xs) (k : Nat) : RowsF F w (vals.take k) (xs.take k) := by
  refine ⟨by rw [List.length_take, List.length_take, h.1], fun j hj => ?_⟩
  rw [List.length_take] at hj
  obtain ⟨u, h1, h2⟩ := h.2 j (by omega)
  exact ⟨u, by rw [List.getElem?_take, if_pos (by omega)]; exact h1, by rw [show (xs.take k).getD j [] = xs.getD j [] by simp [List.getD_eq_getElem?_getD, show j < k by omega]]; exact h2⟩
/-- the first m words are compacted into the first k places -/
structure CpS (F : Nat → Prop) (w : World) (g n : Nat) (cur : Array Value) (xs : List (List Int)) (m : Nat) (W : World) (k : Nat) : Prop where
  gb : w.grownBy W (some g)
  row : ∃ C, W.heap[g]? = some (.cells C 24 (0, 0)) ∧ C.size = cur.size ∧ RowsF F W (C.toList.take k) (compactL (xs.take m)) ∧ ∀ j, m - 1 ≤ j → j < n → C[j]? = cur[j]?
  len : (compactL (xs.take m)).length = k
/-- what the list was -/
structure CpB (F : Nat → Prop) (w : World) (g : Nat) (cur : Array Value) (xs : List (List Int)) : Prop where
  row : w.heap[g]? = some (.cells cur 24 (0, 0))
  size : xs.length ≤ cur.size
  rows : RowsF F w (cur.toList.take xs.length) xs
  fs : ∀ k, F k → k < w.heap.size ∧ k ≠ g
theorem CpB.ag {F : Nat → Prop} {w W : World} {g : Nat} {cur : Array Value} {xs : List (List Int)} (h : CpB F w g cur xs) (hg : w.grownBy W (some g)) : Ag F w W := Ag.grown hg fun k hk => ⟨(h.fs k hk).1, fun e => (h.fs k hk).2 (Option.some.inj e).symm⟩
theorem CpB.at_ {F : Nat → Prop} {w : World} {g : Nat} {cur : Array Value} {xs : List (List Int)} (h : CpB F w g cur xs) {j : Nat} (hj : j < xs.length) : ∃ u, cur[j]? = some u ∧ IntsF F w u (xs.getD j []) := by
  obtain ⟨u, h1, h2⟩ := h.rows.2 j hj
  rw [List.getElem?_take, if_pos hj, Array.getElem?_toList] at h1
  exact ⟨u, h1, h2⟩
theorem CpS.at_ {F : Nat → Prop} {w W : World} {g m k : Nat} {cur : Array Value} {xs : List (List Int)} (hB : CpB F w g cur xs) (h : CpS F w g xs.length cur xs m W k) {j : Nat} (h1 : m - 1 ≤ j) (h2 : j < xs.length) : ∃ u, cur[j]? = some u ∧ W.cell? ⟨g, j, none⟩ = some u ∧ IntsF F W u (xs.getD j []) := by
  obtain ⟨u, hu, hx⟩ := hB.at_ h2
  obtain ⟨C, hC, -, -, hc⟩ := h.row
  exact ⟨u, hu, by rw [cell_of_row _ _ _ _ _ _ hC, hc j h1 h2, hu], hx.keep (hB.ag h.gb)⟩
theorem CpB.start {F : Nat → Prop} {w : World} {g : Nat} {cur : Array Value} {xs : List (List Int)} (hB : CpB F w g cur xs) (q : Nat) {K : Nat} (h1 : 1 ≤ K) (h2 : K < xs.length) (he : xs.getD K [] = xs.getD (K - 1) []) (hz : compactL (xs.take K) = xs.take K) : CpS F w g xs.length cur xs (K + 1) (w.drewN q) K := by
  have e : compactL (xs.take (K + 1)) = xs.take K := by rw [compact_take h1 h2, if_pos he, hz]
  refine ⟨grownBy_drewN _ _, ⟨cur, hB.row, rfl, ?_, fun _ _ _ => rfl⟩, by rw [e, List.length_take]; omega⟩
  rw [e]
  have := hB.rows.take K
  rw [List.take_take, Nat.min_eq_left (by omega)] at this
  exact this.keep (fun _ _ => rfl) fun _ h => h
theorem CpS.drewN {F : Nat → Prop} {w W : World} {g m k : Nat} {cur : Array Value} {xs : List (List Int)} (h : CpS F w g xs.length cur xs m W k) (q : Nat) : CpS F w g xs.length cur xs m (W.drewN q) k :=
  let ⟨C, h1, h2, h3, h4⟩ := h.row
  ⟨⟨h.gb.os, h.gb.tape, h.gb.output, h.gb.size, h.gb.block⟩, ⟨C, h1, h2, h3.keep (fun _ _ => rfl) fun _ h => h, h4⟩, h.len⟩
theorem CpS.skip {F : Nat → Prop} {w W : World} {g m k : Nat} {cur : Array Value} {xs : List (List Int)} (h : CpS F w g xs.length cur xs m W k) (h1 : 1 ≤ m) (h2 : m < xs.length) (he : xs.getD m [] = xs.getD (m - 1) []) : CpS F w g xs.length cur xs (m + 1) W k := by
  have e : compactL (xs.take (m + 1)) = compactL (xs.take m) := by rw [compact_take h1 h2, if_pos he]
  obtain ⟨C, c1, c2, c3, c4⟩ := h.row
  exact ⟨h.gb, ⟨C, c1, c2, by rw [e]; exact c3, fun j hj hn => c4 j (by omega) hn⟩, by rw [e]; exact h.len⟩
theorem CpS.keep {F : Nat → Prop} {w W : World} {g m k : Nat} {cur : Array Value} {xs : List (List Int)} {u : Value} (hB : CpB F w g cur xs) (h : CpS F w g xs.length cur xs m W k) (h1 : 1 ≤ m) (h2 : m < xs.length) (hk : k < m) (he : ¬ xs.getD m [] = xs.getD (m - 1) []) (hu : cur[m]? = some u) :
    CpS F w g xs.length cur xs (m + 1) (W.setCell ⟨g, k, none⟩ u) (k + 1) := by
  have e : compactL (xs.take (m + 1)) = compactL (xs.take m) ++ [xs.getD m []] := by rw [compact_take h1 h2, if_neg he]
  obtain ⟨C, c1, c2, c3, c4⟩ := h.row
  have hgl := (Array.getElem?_eq_some_iff.1 c1).1
  have hsz := hB.size
  have hnew : (W.setCell ⟨g, k, none⟩ u).heap[g]? = some (.cells (C.setIfInBounds k u) 24 (0, 0)) := by
    rw [setCell_eq]
    simp [mapBlock, Array.getElem?_modify, c1, onCells]
  have hgb : W.grownBy (W.setCell ⟨g, k, none⟩ u) (some g) := by
    refine ⟨rfl, rfl, rfl, by simp [World.setCell], fun r hr hne => ?_⟩
    exact Below.heap_setCell W ⟨g, k, none⟩ _ r (fun e => hne (by rw [e]))
  have hag : Ag F W (W.setCell ⟨g, k, none⟩ u) := Ag.grown hgb fun r hr => ⟨Nat.lt_of_lt_of_le (hB.fs r hr).1 h.gb.size, fun e => (hB.fs r hr).2 (Option.some.inj e).symm⟩
  obtain ⟨u', hu', -, hx⟩ := h.at_ hB (j := m) (by omega) h2
  obtain rfl : u' = u := by rw [hu] at hu'; exact (Option.some.inj hu').symm
  refine ⟨⟨h.gb.os, h.gb.tape, h.gb.output, Nat.le_trans h.gb.size hgb.size, fun r hr hne => (hgb.block r (Nat.lt_of_lt_of_le hr h.gb.size) hne).trans (h.gb.block r hr hne)⟩, ⟨_, hnew, by simp [c2], ?_, fun j hj hn => ?_⟩, by rw [e, List.length_append, h.len]; rfl⟩
  · rw [e]
    have hkC : k < C.size := by omega
    have : (C.setIfInBounds k u').toList.take (k + 1) = C.toList.take k ++ [u'] := by
      apply List.ext_getElem?
      intro j
      rw [List.getElem?_take, Array.getElem?_toList, Array.getElem?_setIfInBounds]
      rcases Nat.lt_trichotomy j k with hj | hj | hj
      · rw [if_pos (by omega), if_neg (by omega), List.getElem?_append_left (by rw [List.length_take, Array.length_toList]; omega), List.getElem?_take, if_pos hj, Array.getElem?_toList]
      · subst hj
        rw [if_pos (by omega), if_pos rfl, if_pos hkC, List.getElem?_append_right (by rw [List.length_take]; omega), List.length_take, Array.length_toList, Nat.min_eq_left (by omega), Nat.sub_self]
        rfl
      · rw [if_neg (by omega), List.getElem?_eq_none (by rw [List.length_append, List.length_take, List.length_singleton]; omega)]
    rw [this]
    exact (c3.keep hag fun _ h => h).snoc (hx.keep hag)
  · rw [Array.getElem?_setIfInBounds, if_neg (by omega)]
    exact c4 j (by omega) hn
theorem zero24w (w : World) : (zeroValue 24).run Try.prog w = .ok (.slice none 0 0) w := by kernel_rfl
theorem grown_setCells (g : Nat) : ∀ (l : List Value) (i : Nat) (W : World), W.grownBy (W.setCells g i l) (some g)
  | [], i, W => ⟨rfl, rfl, rfl, Nat.le_refl _, fun _ _ _ => rfl⟩
  | v :: l, i, W => by
    have h2 : W.grownBy (W.setCell ⟨g, i, none⟩ v) (some g) := ⟨rfl, rfl, rfl, by simp [World.setCell], fun r _ hne => Below.heap_setCell W ⟨g, i, none⟩ _ r (fun e => hne (by rw [e]))⟩
    have h1 := grown_setCells g l (i + 1) (W.setCell ⟨g, i, none⟩ v)
    exact ⟨h1.os.trans h2.os, h1.tape.trans h2.tape, h1.output.trans h2.output, Nat.le_trans h2.size h1.size, fun r hr hne => (h1.block r (Nat.lt_of_lt_of_le hr h2.size) hne).trans (h2.block r hr hne)⟩
theorem heap_setCells (g : Nat) : ∀ (l : List Value) (i : Nat) (W : World) (C : Array Value), W.heap[g]? = some (.cells C 24 (0, 0)) → ∃ C', (W.setCells g i l).heap[g]? = some (.cells C' 24 (0, 0)) ∧ C'.size = C.size ∧ ∀ j, j < i → C'[j]? = C[j]?
  | [], i, W, C, h => ⟨C, h, rfl, fun _ _ => rfl⟩
  | v :: l, i, W, C, h => by
    have hgl := (Array.getElem?_eq_some_iff.1 h).1
    have hnew : (W.setCell ⟨g, i, none⟩ v).heap[g]? = some (.cells (C.setIfInBounds i v) 24 (0, 0)) := by
      rw [setCell_eq]
      simp [mapBlock, Array.getElem?_modify, h, onCells]
    obtain ⟨C', h1, h2, h3⟩ := heap_setCells g l (i + 1) _ _ hnew
    exact ⟨C', h1, by rw [h2]; simp, fun j hj => by rw [h3 j (by omega), Array.getElem?_setIfInBounds, if_neg (by omega)]⟩
/-- at the end the rest is cleared -/
theorem CpS.done {F : Nat → Prop} {w W : World} {g k base cap : Nat} {cur : Array Value} {xs : List (List Int)} (hB : CpB F w g cur xs) (h : CpS F w g xs.length cur xs xs.length W k) (hb : base ≤ g) (hc : cur.size = cap) (hm : cap ≤ maxLen) (hk : k ≤ xs.length) :
    OwnT 24 base F (W.setCells g k (List.replicate (xs.length - k) (.slice none 0 0))) (.slice (some ⟨g, 0, none⟩) k cap) (compactL xs) ∧ w.grownBy (W.setCells g k (List.replicate (xs.length - k) (.slice none 0 0))) (some g) ∧ (compactL xs).length = k := by
  obtain ⟨C, c1, c2, c3, -⟩ := h.row
  have hl := h.len
  rw [List.take_length] at hl c3
  have hsz := hB.size
  have g1 := grown_setCells g (List.replicate (xs.length - k) (.slice none 0 0)) k W
  obtain ⟨C', d1, d2, d3⟩ := heap_setCells g (List.replicate (xs.length - k) (.slice none 0 0)) k W C c1
  have hag : Ag F W (W.setCells g k (List.replicate (xs.length - k) (.slice none 0 0))) := Ag.grown g1 fun r hr => ⟨Nat.lt_of_lt_of_le (hB.fs r hr).1 h.gb.size, fun e => (hB.fs r hr).2 (Option.some.inj e).symm⟩
  refine ⟨⟨C'.toList.take k, ⟨?_, .inr ⟨g, cap, C', by rw [hl], hb, d1, by rw [hl]; omega, hm, by omega, by rw [hl, Nat.mul_one]⟩⟩, ?_⟩, ⟨g1.os.trans h.gb.os, g1.tape.trans h.gb.tape, g1.output.trans h.gb.output, Nat.le_trans h.gb.size g1.size, fun r hr hne => (g1.block r (Nat.lt_of_lt_of_le hr h.gb.size) hne).trans (h.gb.block r hr hne)⟩, hl⟩
  · rw [hl, List.length_take, Array.length_toList]; omega
  · have e : C'.toList.take k = C.toList.take k := by
      apply List.ext_getElem?
      intro j
      rw [List.getElem?_take, List.getElem?_take]
      split
      · rw [Array.getElem?_toList, Array.getElem?_toList]; exact d3 j (by omega)
      · rfl
    rw [e]
    exact c3.keep hag fun _ h => h
end Go.Proofs
namespace Go.Proofs
open Go.RowKit Go.Shelf Go.Lib Go.Sort Go.Proofs.Ct Go.Proofs.Tz
theorem quiet_more {P : Program} {f : FuncId} {args : Array Value} {w : World} {a n : Nat} {v : Value}
    (h : Calls P f args (w.drewN (a + n)) fun e w' => e = .returned v ∧ ∃ q, w' = (w.drewN (a + n)).drewN q) :
    Calls P f args (w.drewN (a + n)) fun e w'' => e = .returned v ∧ ∃ m, w'' = w.drewN (a + m) :=
  h.mono fun _ _ ⟨he, q, hq⟩ => ⟨he, n + q, by rw [hq, World.drewN_drewN, Nat.add_assoc]⟩
theorem quiet_more0 {P : Program} {f : FuncId} {args : Array Value} {w : World} {n : Nat} {v : Value}
    (h : Calls P f args (w.drewN n) fun e w' => e = .returned v ∧ ∃ q, w' = (w.drewN n).drewN q) :
    Calls P f args (w.drewN n) fun e w'' => e = .returned v ∧ ∃ m, w'' = w.drewN m :=
  h.mono fun _ _ ⟨he, q, hq⟩ => ⟨he, n + q, by rw [hq, World.drewN_drewN]⟩
theorem CpS.free {F : Nat → Prop} {w W : World} {g m k n i : Nat} {cur : Array Value} {xs : List (List Int)} (h : CpS F w g n cur xs m W k) (hi : i < cur.size) : (∃ z, W.cell? ⟨g, i, none⟩ = some z) ∧ W.frozen? ⟨g, i, none⟩ = false := by
  obtain ⟨C, c1, c2, -, -⟩ := h.row
  exact ⟨⟨C[i], by rw [cell_of_row _ _ _ _ _ _ c1]; simp [c2, hi]⟩, by simp [World.frozen?, c1]⟩
def CompPost (base : Nat) (F : Nat → Prop) (w : World) (g cap : Nat) (xs : List (List Int)) (e : Ending) (w' : World) : Prop :=
  e = .returned (.slice (some ⟨g, 0, none⟩) (compactL xs).length cap) ∧ OwnT 24 base F w' (.slice (some ⟨g, 0, none⟩) (compactL xs).length cap) (compactL xs) ∧ w.grownBy w' (some g)
set_option maxRecDepth 100000 in
set_option maxHeartbeats 4000000 in
theorem compact64_some (base : Nat) (F : Nat → Prop) (w : World) (g cap : Nat) (cur : Array Value) (xs : List (List Int)) (hB : CpB F w g cur xs) (hb : base ≤ g) (hc : cur.size = cap) (hm : cap ≤ maxLen) (hl : xs.length ≤ 1000000) (h0 : xs.length ≠ 0) :
    Calls Try.prog 64 #[.slice (some ⟨g, 0, none⟩) xs.length cap, .func (.func 47) #[] #[]] w (CompPost base F w g cap xs) := by
  have eg : ∀ args w, (callFunc 47 args).run Try.prog w = .ok (.enter 47 args) w := enters_of Try.func47 (by kernel_rfl) rfl
  have HB := Lib.hid hB
  have hcs := hB.size
  have hcap : xs.length ≤ cap := by omega
  have hcm : (cap : Int) ≤ 9223372036854775807 := by unfold maxLen at hm; omega
  have hn0 : (0 : Int) ≤ (xs.length : Int) := Int.natCast_nonneg _
  clear hcs
  by_cases h2 : xs.length < 2
  · have h2' : (xs.length : Int) < 2 := by omega
    have h1 : xs.length = 1 := by omega
    have HE : Hid (compactL xs = xs) := Lib.hid (by
      obtain ⟨x, rfl⟩ := List.length_eq_one_iff.1 h1
      rfl)
    have HR : Hid (CompPost base F w g cap xs (.returned (.slice (some ⟨g, 0, none⟩) xs.length cap)) w) := Lib.hid (by
      unfold CompPost
      rw [HE.out]
      exact ⟨rfl, ⟨_, ⟨by rw [List.length_take, Array.length_toList, Nat.mul_one]; exact Nat.min_eq_left HB.out.size, .inr ⟨g, cap, cur, rfl, hb, HB.out.row, hcap, hm, by omega, by rw [Nat.mul_one]⟩⟩, HB.out.rows⟩, ⟨rfl, rfl, rfl, Nat.le_refl _, fun _ _ _ => rfl⟩⟩)
    clear h1
    go_enter Try.func64, Try.ntmps64
    go_wp2_with fail
    go_ret
    exact HR.out
  · have h2' : ¬ (xs.length : Int) < 2 := by omega
    have hds : decide ((xs.length : Int) < 2) = false := decide_eq_false h2'
    go_enter Try.func64, Try.ntmps64
    go_wp2_with fail
    go_loopw [5] (fun z wr => ∃ k : Nat, 1 ≤ k ∧ k ≤ xs.length ∧ z = .int .i64 k ∧ compactL (xs.take k) = xs.take k ∧ ∃ q, wr = w.drewN q) (fun z _ => xs.length - (intOf z).toNat)
    case atStart => exact ⟨1, Nat.le_refl _, by omega, rfl, by
      cases xs with
      | nil => exact absurd rfl h0
      | cons x l => rfl, 0, rfl⟩
    case round =>
      obtain ⟨k, hk1, hk, rfl, hz, q, rfl⟩ := hrel
      have HZ := Lib.hid hz
      clear hz
      by_cases hlt : k < xs.length
      · obtain ⟨p, hp⟩ : ∃ p, p + 1 = k := ⟨k - 1, by omega⟩
        obtain ⟨u1, hu1, hx1⟩ := HB.out.at_ hlt
        obtain ⟨u2, hu2, hx2⟩ := HB.out.at_ (show p < xs.length by omega)
        have hcell1 : w.cell? ⟨g, k, none⟩ = some u1 := by rw [cell_of_row _ _ _ _ _ _ HB.out.row, hu1]
        have hcell2 : w.cell? ⟨g, p, none⟩ = some u2 := by rw [cell_of_row _ _ _ _ _ _ HB.out.row, hu2]
        have HC := Lib.hid fun W => equal47_any W u1 u2 (xs.getD k []) (xs.getD p [])
        have HX1 := Lib.hid hx1
        have HX2 := Lib.hid hx2
        have HC' : Hid (∀ r, Calls Try.prog 47 #[u1, u2] (w.drewN r) fun e w' => e = .returned (.bool (decide (xs.getD k [] = xs.getD p []))) ∧ ∃ q, w' = (w.drewN r).drewN q) := Lib.hid fun r => HC.out _ (hx1.at_.drewN r) (hx2.at_.drewN r)
        obtain ⟨A1, c1, rfl, -⟩ := hx1.at_.open_
        obtain ⟨A2, c2, rfl, -⟩ := hx2.at_.open_
        have HP := Lib.hid hp
        have hk1' : (k : Int) - 1 = (p : Int) := by omega
        have hk0 : (0 : Int) ≤ (k : Int) := Int.natCast_nonneg _
        have hkl : (k : Int) < (xs.length : Int) := by omega
        have hp0 : (0 : Int) ≤ (p : Int) := Int.natCast_nonneg _
        have hpl : (p : Int) < (xs.length : Int) := by omega
        have hpw : IntKind.i64.wrap (p : Int) = (p : Int) := by simp [IntKind.wrap, IntKind.bits, IntKind.signed]; omega
        clear hx1 hx2 hu1 hu2 hp
        by_cases he : xs.getD k [] = xs.getD p []
        · rw [decide_eq_true he] at HC'
          have HE : Hid (xs.getD k [] = xs.getD (k - 1) []) := Lib.hid (by rw [he, show p = k - 1 by have := HP.out; omega])
          clear he
          generalize (xs.getD k []).length = n1 at *
          generalize (xs.getD p []).length = n2 at *
          go_wp2_with fail
          go_quiet ((go_at_fn 47; first | exact quiet_more (HC'.out _) | exact quiet_more0 (HC'.out _)))
          have hSL : sliced (some ⟨g, 0, none⟩) k xs.length cap 1 = .slice (some ⟨g, k, none⟩) (xs.length - k) (cap - k) := by
            unfold sliced
            have : ¬ (cap - k = 0) := by omega
            simp [Addr.add_mid, show ¬ cap = k by omega]
          go_wp2_with ((with_reducible refine wpList_sel 31 ?_); refine wpList_val rfl ((run_sl_lo under25w size25w (.tmp 29) (.tmp 30) _ _ _ k rfl rfl rfl (by omega)).trans (congrArg (fun v => Result.ok (Next.value v) _) hSL)) ?_)
          have HST := Lib.hid fun r => HB.out.start r hk1 hlt HE.out HZ.out
          have HXE := Lib.hid (show p + 1 = k from HP.out)
          clear HC HC' HX1 HX2 hcell1 hcell2 hSL HE HZ
          go_loopw [5, 7] (fun zi zj wr => ∃ (i j : Nat), zi = .int .i64 i ∧ zj = .int .i64 j ∧ 1 ≤ j ∧ k + j ≤ xs.length ∧ i < k + j ∧ Hid (CpS F w g xs.length cur xs (k + j) wr i)) (fun _ zj _ => xs.length - k - (intOf zj).toNat)
          case atStart => exact ⟨k, 1, rfl, by go_num, Nat.le_refl _, hlt, by omega, Lib.hid (by first | exact HST.out _ | exact (HST.out _).drewN _)⟩
          case round =>
            obtain ⟨i, j, rfl, rfl, hj1, hj, hij, HS⟩ := hrel
            have hi0 : (0 : Int) ≤ (i : Int) := Int.natCast_nonneg _
            have hj0 : (0 : Int) ≤ (j : Int) := Int.natCast_nonneg _
            have hsub : ((xs.length - k : Nat) : Int) = (xs.length : Int) - (k : Int) := by omega
            by_cases hjl : k + j < xs.length
            · obtain ⟨t, ht⟩ : ∃ t, t + 1 = j := ⟨j - 1, by omega⟩
              obtain ⟨u1, hu1, hcell1, hx1⟩ := HS.out.at_ HB.out (j := k + j) (by omega) hjl
              obtain ⟨u2, hu2, hcell2, hx2⟩ := HS.out.at_ HB.out (j := k + t) (by omega) (by omega)
              have HU1 := Lib.hid hu1
              have HC : Hid (∀ r, Calls Try.prog 47 #[u1, u2] (wr.drewN r) fun e w' => e = .returned (.bool (decide (xs.getD (k + j) [] = xs.getD (k + t) []))) ∧ ∃ q, w' = (wr.drewN r).drewN q) := Lib.hid fun r => equal47_any _ u1 u2 _ _ (hx1.at_.drewN r) (hx2.at_.drewN r)
              obtain ⟨A1, c1, rfl, -⟩ := hx1.at_.open_
              obtain ⟨A2, c2, rfl, -⟩ := hx2.at_.open_
              have HT := Lib.hid ht
              have hj1' : (j : Int) - 1 = (t : Int) := by omega
              have ht0 : (0 : Int) ≤ (t : Int) := Int.natCast_nonneg _
              have hjk : j < xs.length - k := by omega
              have htk : t < xs.length - k := by omega
              have hjk' : (j : Int) < ((xs.length - k : Nat) : Int) := by omega
              have htk' : (t : Int) < ((xs.length - k : Nat) : Int) := by omega
              have htw : IntKind.i64.wrap (t : Int) = (t : Int) := by simp [IntKind.wrap, IntKind.bits, IntKind.signed]; omega
              clear hx1 hx2 hu1 hu2 ht hsub
              generalize (xs.getD (k + j) []).length = n1 at *
              generalize (xs.getD (k + t) []).length = n2 at *
              by_cases he : xs.getD (k + j) [] = xs.getD (k + t) []
              · rw [decide_eq_true he] at HC
                have HN := Lib.hid (HS.out.skip (by omega) hjl (by rw [he, show k + t = k + j - 1 by have := HT.out; omega]))
                clear he
                go_wp2_with fail
                go_quiet ((go_at_fn 47; first | exact quiet_more (HC.out _) | exact quiet_more0 (HC.out _)))
                go_wp2_with fail
                go_roundw
                case rel => exact ⟨i, j + 1, by go_num, by go_num, by omega, by omega, by omega, Lib.hid (by first | exact HN.out | exact HN.out.drewN _)⟩
                case measure => simp [intOf]; omega
              · rw [decide_eq_false he] at HC
                have HN := Lib.hid (HS.out.keep HB.out (by omega) hjl hij (by rw [show k + j - 1 = k + t by have := HT.out; omega]; exact he) HU1.out)
                clear he
                obtain ⟨⟨z, hz⟩, hfz⟩ := HS.out.free (i := i) (by have := HB.out.size; omega)
                have hil : (i : Int) < (xs.length : Int) := by omega
                go_wp2_with fail
                go_quiet ((go_at_fn 47; first | exact quiet_more (HC.out _) | exact quiet_more0 (HC.out _)))
                go_wp2_with fail
                go_roundw
                case rel => exact ⟨i + 1, j + 1, by go_num, by go_num, by omega, by omega, by omega, Lib.hid (by first | exact HN.out | exact HN.out.drewN _)⟩
                case measure => simp [intOf]; omega
            · have hje : k + j = xs.length := by omega
              have HSE : Hid (CpS F w g xs.length cur xs xs.length wr i) := Lib.hid (by rw [← hje]; exact hje ▸ HS.out)
              have hnlt : ¬ (j : Int) < ((xs.length - k : Nat) : Int) := by omega
              have hcl : ∀ ty, (Builtin.clear_ #[25] ty #[.slice (some ⟨g, i, none⟩) (xs.length - i) (cap - i)]).run Try.prog wr = .ok (.tuple #[]) (wr.setCells g i (List.replicate (xs.length - i) (.slice none 0 0))) := fun ty =>
                Lib.run_clear_slice wr _ _ ty _ Try.underlying25 zero24w rfl rfl g i _ _ (by omega) (fun t ht => by
                  obtain ⟨⟨z, hz⟩, -⟩ := HSE.out.free (i := i + t) (by have := HB.out.size; omega)
                  rw [hz]; rfl) (fun t ht => (HSE.out.free (i := i + t) (by have := HB.out.size; omega)).2)
              have HD := Lib.hid (HSE.out.done HB.out hb hc hm (by omega))
              have hilt : (i : Int) < (xs.length : Int) := by omega
              have hic : (i : Int) ≤ (cap : Int) := by omega
              have hcapi : ¬ cap = i := by omega
              clear hsub HS HST
              go_wp2_with fail
              go_ret
              exact ⟨by rw [HD.out.2.2]; rfl, by rw [HD.out.2.2]; exact HD.out.1, HD.out.2.1⟩
        · rw [decide_eq_false he] at HC'
          have HE : Hid (¬ xs.getD k [] = xs.getD (k - 1) []) := Lib.hid (by rw [show k - 1 = p by have := HP.out; omega]; exact he)
          clear he
          generalize (xs.getD k []).length = n1 at *
          generalize (xs.getD p []).length = n2 at *
          go_wp2_with fail
          go_quiet ((go_at_fn 47; first | exact quiet_more (HC'.out _) | exact quiet_more0 (HC'.out _)))
          go_wp2_with fail
          go_roundw
          case rel => exact ⟨k + 1, by omega, by omega, by go_num, by rw [compact_take hk1 hlt, if_neg HE.out, HZ.out, List.take_succ_eq_append_getElem hlt]; simp [List.getD_eq_getElem?_getD, hlt], (by first | exact ⟨_, rfl⟩ | exact ex_drewN)⟩
          case measure => simp [intOf]; omega
      · obtain rfl : k = xs.length := by omega
        have HE : Hid (compactL xs = xs) := Lib.hid (by have := HZ.out; rwa [List.take_length] at this)
        have HR : Hid (∀ r, CompPost base F w g cap xs (.returned (.slice (some ⟨g, 0, none⟩) xs.length cap)) (w.drewN r)) := Lib.hid fun r => (by
          unfold CompPost
          rw [HE.out]
          exact ⟨rfl, ⟨_, ⟨by rw [List.length_take, Array.length_toList, Nat.mul_one]; exact Nat.min_eq_left HB.out.size, .inr ⟨g, cap, cur, rfl, hb, HB.out.row, hcap, hm, by omega, by rw [Nat.mul_one]⟩⟩, HB.out.rows.keep (fun _ _ => rfl) fun _ h => h⟩, grownBy_drewN _ _⟩)
        go_wp2_with fail
        go_ret
        exact HR.out _
theorem ownBlock_len (A : Option Addr) (n m c d : Nat) : (Value.slice A n c).ownBlock = (Value.slice A m d).ownBlock := by cases A <;> rfl
theorem compact64_nil (w : World) (A : Option Addr) (c : Nat) : Calls Try.prog 64 #[.slice A 0 c, .func (.func 47) #[] #[]] w fun e w' => e = .returned (.slice A 0 c) ∧ w' = w := by
  go_enter Try.func64, Try.ntmps64
  go_wp2_with fail
  go_ret
  exact ⟨rfl, rfl⟩
def TidyPost (base : Nat) (F : Nat → Prop) (w : World) (A : Option Addr) (c : Nat) (zs : List (List Int)) (e : Ending) (w' : World) : Prop :=
  e = .returned (.slice A zs.length c) ∧ OwnT 24 base F w' (.slice A zs.length c) zs ∧ w.grownBy w' (Value.slice A zs.length c).ownBlock
theorem compact64_any (base : Nat) (F : Nat → Prop) (w : World) (A : Option Addr) (c : Nat) (xs : List (List Int)) (h : OwnT 24 base F w (.slice A xs.length c) xs) (hF : ∀ k, F k → k < w.heap.size ∧ (Value.slice A xs.length c).ownBlock ≠ some k) (hl : xs.length ≤ 1000000) :
    Calls Try.prog 64 #[.slice A xs.length c, .func (.func 47) #[] #[]] w (TidyPost base F w A c (compactL xs)) := by
  by_cases h0 : xs = []
  · subst h0
    refine (compact64_nil w A c).mono fun e w' ⟨h1, h2⟩ => ?_
    rw [h1, h2]
    exact ⟨rfl, h, rfl, rfl, rfl, Nat.le_refl _, fun _ _ _ => rfl⟩
  · have h0' : xs.length ≠ 0 := fun e => h0 (List.eq_nil_of_length_eq_zero e)
    obtain ⟨vals, ⟨hlen, ho⟩, hr⟩ := h
    rcases ho with ⟨-, e⟩ | ⟨g, cap, cur, e, hb, hC, h1, hm, hs, ht⟩
    · exact absurd e h0'
    · injection e with e1 _ e3
      subst e1 e3
      rw [Nat.mul_one] at hs ht
      refine (compact64_some base F w g c cur xs ⟨hC, by omega, by rw [ht]; exact hr, fun k hk => ⟨(hF k hk).1, fun e => (hF k hk).2 (by subst e; rfl)⟩⟩ hb hs hm hl h0').mono fun e w' h => h
/-- what is sorted and struck out has no word that was not there -/
theorem tidy45_any (base : Nat) (F : Nat → Prop) (w : World) (A : Option Addr) (c : Nat) (xs : List (List Int)) (h : OwnT 24 base F w (.slice A xs.length c) xs) (hF : ∀ k, F k → k < w.heap.size ∧ (Value.slice A xs.length c).ownBlock ≠ some k) (hm : ∀ x ∈ xs, ∀ z ∈ x, Mild z) (hl : xs.length ≤ 1000000) :
    Calls Try.prog 45 #[.slice A xs.length c, .func (.func 46) #[] #[], .func (.func 47) #[] #[]] w fun e w' => ∃ ys, ys.Perm xs ∧ Sorted ys ∧ TidyPost base F w A c (compactL ys) e w' := by
  have HS := Lib.hid (sort63_any base F w A c xs h hF hm hl)
  have HF := Lib.hid hF
  clear h hF hm
  go_enter Try.func45, Try.ntmps45
  go_wp2_with (first
    | (go_at_call 63
       refine HS.out.mono ?_
       rintro e w1 ⟨rfl, ys, hp, hsd, ho, hg⟩
       have HC := Lib.hid (compact64_any base F w1 A c ys (by rw [hp.length_eq]; exact ho) (fun k hk => ⟨Nat.lt_of_lt_of_le (HF.out k hk).1 hg.size, by rw [hp.length_eq]; exact (HF.out k hk).2⟩) (by rw [hp.length_eq]; exact hl))
       rw [hp.length_eq] at HC
       have HG := Lib.hid hg
       have HP := Lib.hid hp
       have HD := Lib.hid hsd
       clear hp hsd ho hg)
    | (go_at_call 64
       refine HC.out.mono ?_
       rintro e w2 ⟨rfl, ho2, hg2⟩))
  go_ret
  refine ⟨ys, HP.out, HD.out, rfl, ho2, ⟨hg2.os.trans HG.out.os, hg2.tape.trans HG.out.tape, hg2.output.trans HG.out.output, Nat.le_trans HG.out.size hg2.size, fun k hk hne => ?_⟩⟩
  exact (hg2.block k (Nat.lt_of_lt_of_le hk HG.out.size) hne).trans (HG.out.block k hk (by rw [ownBlock_len A _ (compactL ys).length c c]; exact hne))
end Go.Proofs
namespace Go.Proofs
open Go.RowKit Go.Shelf Go.Proofs.Ct Go.Maps
/-- no letter of a table of g generators -/
def letBad (g : Nat) (x : Int) : Bool := decide (x = 0) || decide (x < -(g : Int)) || decide ((g : Int) < x)
theorem letsOk_of {g : Nat} {w : List Int} (h : w.any (letBad g) = false) : LetsOk g w := fun x hx => by
  have := List.any_eq_false.1 h x hx
  unfold letBad at this
  simp at this
  omega
end Go.Proofs
namespace Go.Proofs
open Go.RowKit Go.Shelf Go.Proofs.Ct Go.Maps
/-- the error of the relator k -/
def presBad (g : Nat) (rels : List W) (k : Nat) : Int := if 4000 < sumTo rels (k + 1) then 4 else if (rels.getD k []).any (letBad g) = true then 2 else 0
def presE (g : Int) (rels : List W) : Int :=
  if g < 1 ∨ 16 < g then 2 else if 100 < rels.length then 4 else
  match first (fun k => decide (presBad g.toNat rels k ≠ 0)) rels.length with
  | some k => presBad g.toNat rels k
  | none => 0
theorem presE_some {g : Nat} {rels : List W} (hg : 1 ≤ g ∧ g ≤ 16) (hl : rels.length ≤ 100) {k : Nat} (hk : k < rels.length) (hz : ∀ j, j < k → presBad g rels j = 0) (hb : presBad g rels k ≠ 0) : presE g rels = presBad g rels k := by
  unfold presE
  rw [if_neg (by omega), if_neg (by omega), first_some hk (by simpa using hb) (fun j hj => by simpa using hz j hj)]
  rfl
theorem presE_none {g : Nat} {rels : List W} (hg : 1 ≤ g ∧ g ≤ 16) (hl : rels.length ≤ 100) (hz : ∀ j, j < rels.length → presBad g rels j = 0) : presE g rels = 0 := by
  unfold presE
  rw [if_neg (by omega), if_neg (by omega), first_none (fun j hj => by simpa using hz j hj)]
theorem pred121 (g B : Nat) (vr : Value) (w : World) (hg : g ≤ 16) (hc : w.cell? ⟨B, 0, none⟩ = some (.int .i64 (g : Int))) (_hc1 : w.cell? ⟨B, 1, none⟩ = some vr) :
    PredW 35 #[.pointer (some ⟨B, 0, none⟩)] (fun x => -9223372036854775808 ≤ x ∧ x ≤ 9223372036854775807) (letBad g) w := fun x q hx => by
  have hcq : (w.drewN q).cell? ⟨B, 0, none⟩ = some (.int .i64 (g : Int)) := hc
  show Calls Try.prog 35 #[.int .i64 x, .pointer (some ⟨B, 0, none⟩)] (w.drewN q) _
  have h0 : letBad g x = (decide (x = 0) || decide (x < -(g : Int)) || decide ((g : Int) < x)) := rfl
  have H0 := Lib.hid h0
  clear h0
  generalize hW : w.drewN q = W at *
  have HW := Lib.hid hW
  clear hW
  have hg0 : (0 : Int) ≤ (g : Int) := Int.natCast_nonneg _
  have hg1 : (g : Int) ≤ 16 := by omega
  by_cases h1 : x = 0
  · subst h1
    go_enter Try.func35, Try.ntmps35
    go_wp2_with fail
    go_ret
    exact ⟨ret_bool (by rw [H0.out]; simp), q, HW.out.symm⟩
  · have d1 : (x == 0) = false := by simpa using h1
    by_cases h2 : x < -(g : Int)
    · go_enter Try.func35, Try.ntmps35
      go_wp2_with fail
      go_ret
      exact ⟨ret_bool (by rw [H0.out]; simp [h2]), q, HW.out.symm⟩
    · by_cases h3 : (g : Int) < x
      · go_enter Try.func35, Try.ntmps35
        go_wp2_with fail
        go_ret
        exact ⟨ret_bool (by rw [H0.out]; simp [h3]), q, HW.out.symm⟩
      · go_enter Try.func35, Try.ntmps35
        go_wp2_with fail
        go_ret
        exact ⟨ret_bool (by rw [H0.out]; simp [h1, h2, h3]), q, HW.out.symm⟩
theorem eg121 : ∀ args w, (callFunc 35 args).run Try.prog w = .ok (.enter 35 args) w := enters_of Try.func35 (by kernel_rfl) rfl
end Go.Proofs
namespace Go.Proofs
open Go.RowKit Go.Shelf Go.Proofs.Ct Go.Maps
def PresPost (g : Int) (rels : List W) (w : World) (e : Ending) (w' : World) : Prop := (∃ y, e = .returned (.tuple #[.int .i64 (presE g rels), .int .i64 y])) ∧ Below w.heap.size w w'
theorem presE_range {g : Int} {rels : List W} (h : g < 1 ∨ 16 < g) : presE g rels = 2 := by unfold presE; rw [if_pos h]
theorem presE_many {g : Int} {rels : List W} (h : ¬ (g < 1 ∨ 16 < g)) (h2 : 100 < rels.length) : presE g rels = 4 := by unfold presE; rw [if_neg h, if_pos h2]
theorem sumTo_succ (rels : List W) (k : Nat) : sumTo rels (k + 1) = sumTo rels k + (rels.getD k []).length := rfl
theorem presBad_long {g : Nat} {rels : List W} {k : Nat} (h : 4000 < sumTo rels (k + 1)) : presBad g rels k = 4 := by unfold presBad; rw [if_pos h]
theorem presBad_let {g : Nat} {rels : List W} {k : Nat} (h : ¬ 4000 < sumTo rels (k + 1)) (h2 : (rels.getD k []).any (letBad g) = true) : presBad g rels k = 2 := by unfold presBad; rw [if_neg h, if_pos h2]
theorem presBad_ok {g : Nat} {rels : List W} {k : Nat} (h : ¬ 4000 < sumTo rels (k + 1)) (h2 : (rels.getD k []).any (letBad g) = false) : presBad g rels k = 0 := by unfold presBad; rw [if_neg h, h2]; rfl
set_option maxRecDepth 100000 in
set_option maxHeartbeats 1000000 in
theorem pcheck78_any (w : World) (vr : Value) (g : Int) (rels : List W) (hR : Tab w vr rels) : Calls Try.prog 19 #[.agg #[.int .i64 g, vr]] w (PresPost g rels w) := by
  obtain ⟨Ar, cr, rfl, r1, r2, r3⟩ := hR.open_
  have hbel : Below w.heap.size w (w.alloc (.cells #[.int .i64 g, .slice Ar rels.length cr] 27)) := (Below.refl _ _).alloc (Nat.le_refl _) _
  have HBE := Lib.hid hbel
  have HR := Lib.hid r3
  have hnew := heap_alloc_new w (.cells #[.int .i64 g, .slice Ar rels.length cr] 27)
  have hn0 : (0 : Int) ≤ (rels.length : Int) := Int.natCast_nonneg _
  by_cases h1 : g < 1 ∨ 16 < g
  · have HZ := Lib.hid (presE_range (rels := rels) h1)
    clear hR r3 hbel hnew
    by_cases h2 : g < 1
    · clear h1
      go_enter Try.func19, Try.ntmps19
      go_wp2_with fail
      go_ret2
      exact ⟨⟨_, ret_pair HZ.out.symm rfl⟩, HBE.out⟩
    · have h3 : 16 < g := by omega
      clear h1
      go_enter Try.func19, Try.ntmps19
      go_wp2_with fail
      go_ret2
      exact ⟨⟨_, ret_pair HZ.out.symm rfl⟩, HBE.out⟩
  · obtain ⟨gn, rfl⟩ : ∃ gn : Nat, g = gn := ⟨g.toNat, by omega⟩
    have hg1 : ¬ (gn : Int) < 1 := by omega
    have hg2 : ¬ (16 : Int) < (gn : Int) := by omega
    by_cases h4 : 100 < rels.length
    · have h4' : (100 : Int) < (rels.length : Int) := by omega
      have HZ := Lib.hid (presE_many (rels := rels) h1 h4)
      clear hR r3 hbel hnew h1 h4
      go_enter Try.func19, Try.ntmps19
      go_wp2_with fail
      go_ret2
      exact ⟨⟨_, ret_pair HZ.out.symm rfl⟩, HBE.out⟩
    · have h4' : ¬ (100 : Int) < (rels.length : Int) := by omega
      have h4'' : (rels.length : Int) ≤ 100 := by omega
      have HS : Hid (∀ k, k < rels.length → (∀ j, j < k → presBad gn rels j = 0) → presBad gn rels k ≠ 0 → presE (gn : Int) rels = presBad gn rels k) := Lib.hid fun k => presE_some (by omega) (by omega)
      have HN := Lib.hid (@presE_none gn rels (by omega) (by omega))
      have HP : Hid (∀ q, PredW 35 #[.pointer (some ⟨w.heap.size, 0, none⟩)] (fun x => -9223372036854775808 ≤ x ∧ x ≤ 9223372036854775807) (letBad gn) ((w.alloc (.cells #[.int .i64 (gn : Int), .slice Ar rels.length cr] 27)).drewN q)) := Lib.hid fun q => pred121 gn w.heap.size (.slice Ar rels.length cr) _ (by omega) (cell_of2 hnew).1 (cell_of2 hnew).2
      clear hR r3 hbel hnew h1 h4
      go_enter Try.func19, Try.ntmps19
      go_wp2_with fail
      generalize hw0 : w.alloc (.cells #[.int .i64 (gn : Int), .slice Ar rels.length cr] 27) = w0 at *
      clear hw0
      go_loopw [4, 24] (fun l i wr => ∃ k s : Nat, i = .int .i64 k ∧ k ≤ rels.length ∧ l = .int .i64 (4000 - (s : Int)) ∧ s ≤ 4000 ∧ Hid (s = sumTo rels k ∧ ∀ j, j < k → presBad gn rels j = 0) ∧ ∃ q, wr = w0.drewN q) (fun _ i _ => rels.length - (intOf i).toNat)
      case atStart => exact ⟨0, 0, rfl, by omega, rfl, by omega, Lib.hid ⟨rfl, fun j hj => absurd hj (by omega)⟩, 0, rfl⟩
      case round =>
        obtain ⟨k, s, rfl, hk, rfl, hs, HK, q, rfl⟩ := hrel
        have hk0 : (0 : Int) ≤ (k : Int) := Int.natCast_nonneg _
        by_cases hlt : k < rels.length
        · have hlt' : (k : Int) < (rels.length : Int) := by omega
          obtain ⟨b, o, rfl, hcc⟩ := HR.out (by omega)
          obtain ⟨u, hu, hI⟩ := hcc k hlt
          have hu' : (w0.drewN q).cell? ⟨b, o + k, none⟩ = some u := (HBE.out.cell (p := ⟨b, o + k, none⟩) (World.block_lt_of_cell? w _ hu)).trans hu
          have HI := Lib.hid (hI.below HBE.out)
          obtain ⟨Au, cu, rfl, u1, u2, -⟩ := hI.open_
          have HSU := Lib.hid (sumTo_succ rels k)
          have HBL := Lib.hid (@presBad_long gn rels k)
          have HBT := Lib.hid (@presBad_let gn rels k)
          have HBO := Lib.hid (@presBad_ok gn rels k)
          have HSK : Hid (presBad gn rels k ≠ 0 → presE gn rels = presBad gn rels k) := Lib.hid (HS.out k hlt HK.out.2)
          have HNX : Hid (presBad gn rels k = 0 → ∀ j, j < k + 1 → presBad gn rels j = 0) := Lib.hid fun h => all_succ HK.out.2 h
          have HSM := Lib.hid HK.out.1
          have HPR := Lib.hid (has74_any 35 _ _ _ (w0.drewN q) eg121 (HP.out q) _ (rels.getD k []) (HI.out.drewN q) (fun x hx => HI.out.2 x hx))
          have hln0 : (0 : Int) ≤ ((rels.getD k []).length : Int) := Int.natCast_nonneg _
          clear hcc hI hu HI HS HN HP HR
          generalize hpe : presE (gn : Int) rels = pe at *
          have HPE := Lib.hid hpe
          clear hpe
          generalize presBad gn rels k = pb at *
          generalize hsm : sumTo rels (k + 1) = sm at *
          have HSME := Lib.hid hsm
          clear hsm
          generalize (rels.getD k []).any (letBad gn) = lb at *
          generalize (rels.getD k []).length = L at *
          have hs0 : (0 : Int) ≤ (s : Int) := Int.natCast_nonneg _
          have hs1 : (s : Int) ≤ 4000 := by omega
          have hL1 : (L : Int) ≤ 9223372036854775807 := by omega
          by_cases hov : 4000 < s + L
          · have hov' : (4000 : Int) - (s : Int) - (L : Int) < 0 := by omega
            have HZ : Hid (pe = 4) := Lib.hid (by have h1 := HBL.out (by rw [HSU.out, ← HSM.out]; exact hov); rw [HSK.out (by omega), h1])
            clear hov
            go_wp2_with fail
            go_ret2
            exact ⟨⟨_, ret_pair (by rw [HPE.out, HZ.out]) rfl⟩, below_drewN HBE.out _⟩
          · have hov' : ¬ (4000 : Int) - (s : Int) - (L : Int) < 0 := by omega
            have HSV := Lib.hid hov
            have hsl : s + L ≤ 4000 := by omega
            clear hov
            cases lb with
            | true =>
              have HZ : Hid (pe = 2) := Lib.hid (by have h1 := HBT.out (by rw [HSU.out, ← HSM.out]; exact HSV.out) rfl; rw [HSK.out (by omega), h1])
              go_wp2_with (go_at_call 34; (refine HPR.out.mono ?_); rintro e w' ⟨rfl, q', rfl⟩)
              go_ret2
              exact ⟨⟨_, ret_pair (by rw [HPE.out, HZ.out]) rfl⟩, below_drewN HBE.out _⟩
            | false =>
              have HZ : Hid (∀ j, j < k + 1 → presBad gn rels j = 0) := Lib.hid (HNX.out (HBO.out (by rw [HSU.out, ← HSM.out]; exact HSV.out) rfl))
              go_wp2_with (go_at_call 34; (refine HPR.out.mono ?_); rintro e w' ⟨rfl, q', rfl⟩)
              go_roundw
              case rel => exact ⟨k + 1, s + L, by go_num, by omega, congrArg (Value.int .i64) (by omega), hsl, Lib.hid ⟨by rw [HSME.out, HSU.out, HSM.out], HZ.out⟩, (by first | exact ⟨_, rfl⟩ | exact ex_drewN)⟩
              case measure => simp [intOf]; omega
        · obtain rfl : k = rels.length := by omega
          have HZ := Lib.hid (HN.out HK.out.2)
          clear HS HN HP HR
          go_wp2_with fail
          go_ret2
          exact ⟨⟨_, ret_pair HZ.out.symm rfl⟩, below_drewN HBE.out _⟩
end Go.Proofs
namespace Go.Proofs
open Go.RowKit Go.Shelf Go.Proofs.Ct Go.Maps
theorem col_pos {x : Int} (h : 0 < x) : ((col x : Nat) : Int) = 2 * (x - 1) := by unfold col; rw [if_pos h]; omega
theorem col_neg {x : Int} (h : ¬ 0 < x) (h0 : x ≠ 0) : ((col x : Nat) : Int) = 2 * (-x - 1) + 1 := by unfold col; rw [if_neg h]; omega
end Go.Proofs
namespace Go.Proofs
open Go.RowKit Go.Shelf Go.Proofs.Ct Go.Maps
/-- the letters of a valid presentation -/
theorem presE_good {g : Int} {rels : List W} (h : presE g rels = 0) : ∃ gn : Nat, g = gn ∧ 1 ≤ gn ∧ gn ≤ 16 ∧ rels.length ≤ 100 ∧ ∀ j, j < rels.length → LetsOk gn (rels.getD j []) ∧ (rels.getD j []).length ≤ 4000 := by
  unfold presE at h
  by_cases h1 : g < 1 ∨ 16 < g
  · rw [if_pos h1] at h; omega
  · rw [if_neg h1] at h
    by_cases h2 : 100 < rels.length
    · rw [if_pos h2] at h; omega
    · rw [if_neg h2] at h
      have hz : ∀ j, j < rels.length → presBad g.toNat rels j = 0 := by
        cases hf : first (fun k => decide (presBad g.toNat rels k ≠ 0)) rels.length with
        | none => intro j hj; simpa using first_none' hf j hj
        | some k =>
          rw [hf] at h
          have h3 := (first_some' hf).2.1
          simp at h3
          exact absurd h h3
      refine ⟨g.toNat, by omega, by omega, by omega, by omega, fun j hj => ?_⟩
      have hb := hz j hj
      unfold presBad at hb
      by_cases h3 : 4000 < sumTo rels (j + 1)
      · rw [if_pos h3] at hb; omega
      · rw [if_neg h3] at hb
        refine ⟨letsOk_of ?_, ?_⟩
        · cases hx : (rels.getD j []).any (letBad g.toNat) with
          | false => rfl
          | true => rw [hx] at hb; simp at hb
        · rw [sumTo_succ] at h3; omega
theorem load40 {w : World} {b : Nat} {v0 v1 : Value} (hc : w.heap[b]? = some (.cells #[v0, v1] 27 (0, 0))) : (Instr.loadAt 27 (.pointer (some ⟨b, 0, none⟩))).run Try.prog w = .ok (.agg #[v0, v1]) w := by
  have hr : w.rangeAt b 0 [v0, v1] := fun j v hj => by rw [cell_of_row _ _ _ _ _ _ hc, Nat.zero_add]; simpa using hj
  exact run_loadAt_mid (P := Try.prog) w b 0 27 [v0, v1] _ hr Try.underlying27 rfl (by kernel_rfl)
end Go.Proofs
namespace Go.Proofs
open Go.RowKit Go.Shelf Go.Proofs.Ct Go.Maps
theorem LAt.cells {α : Type} {R : World → Value → α → Prop} {d : α} {w : World} {A : Option Addr} {n c : Nat} {xs : List α} (h : LAt R d w (.slice A n c) xs) : 0 < xs.length → ∃ b off, A = some ⟨b, off, none⟩ ∧ ∀ k, k < xs.length → ∃ u, w.cell? ⟨b, off + k, none⟩ = some u ∧ R w u (xs.getD k d) := by
  obtain ⟨A', c', e, -, -, h3⟩ := h.open_
  cases e
  exact h3
end Go.Proofs
namespace Go.Proofs
open Go.RowKit Go.Shelf Go.Proofs.Ct Go.Maps
section
variable {o : Oper} {a : Act} {w w' : World} {n : Nat} {v : Value}
end
/-- block b is the numbers x, no more -/
def XE (w : World) (b : Nat) (x : List Int) : Prop := w.heap[b]? = some (.cells (ints x).toArray 3 (0, 0))
theorem XE.set {w : World} {b : Nat} {x : List Int} (h : XE w b x) (k : Nat) (v : Int) : XE (w.setCell ⟨b, k, none⟩ (.int .i64 v)) b (x.set k v) := by
  unfold XE at h ⊢
  have : (ints x).toArray.setIfInBounds k (.int .i64 v) = (ints (x.set k v)).toArray := by simp [ints, List.map_set]
  rw [← this]
  simp [World.setCell, Array.getElem?_modify, h]
theorem XE.own {w : World} {b base : Nat} {x : List Int} (h : XE w b x) (hb : base ≤ b) {n : Nat} (hn : x.length = n) (hm : n ≤ 9000000) : OwnI base w (.slice (some ⟨b, 0, none⟩) n n) x := by
  subst hn
  refine ⟨by simp [ints], .inr ⟨b, x.length, (ints x).toArray, rfl, hb, h, Nat.le_refl _, ?_, by simp [ints], ?_⟩⟩
  · have : x.length ≤ 9223372036854775807 := by omega
    simpa [maxLen] using this
  · simp only [Nat.mul_one]
    exact List.take_of_length_le (by simp [ints])
theorem XE.frozen {w : World} {b : Nat} {x : List Int} (h : XE w b x) (k : Nat) : w.frozen? ⟨b, k, none⟩ = false := by
  simp [World.frozen?, show w.heap[b]? = _ from h]
theorem XE.cell {w : World} {b : Nat} {x : List Int} (h : XE w b x) {k : Nat} (hk : k < x.length) : w.cell? ⟨b, k, none⟩ = some (.int .i64 (x.getD k 0)) := by
  rw [cell_of_row _ _ _ _ _ _ (show w.heap[b]? = _ from h)]
  simp [ints, hk, List.getD_eq_getElem?_getD]
end Go.Proofs
namespace Go.Proofs
open Go.RowKit Go.Shelf Go.Proofs.Ct Go.Maps
section
variable {G : Int} {vt vr : Value} {F : Nat → Prop} {w1 W : World} {vn : Value} {n : Int} {rows : List (List Int)}
end
/-- the reference's system, as it reads -/
structure SysR (w : World) (vt vr vn : Value) (t : Tb) (R N : List (List Int)) : Prop where
  tab : Tab w vt t
  reps : Tab w vr R
  nums : Tab w vn N
theorem SysR.below {w w' : World} {vt vr vn : Value} {t : Tb} {R N : List (List Int)} (h : SysR w vt vr vn t R N) (hb : Below w.heap.size w w') : SysR w' vt vr vn t R N :=
  ⟨kept_tab.below h.tab hb, kept_tab.below h.reps hb, kept_tab.below h.nums hb⟩
end Go.Proofs
namespace Go.Proofs
open Go.RowKit Go.Shelf Go.Proofs.Ct Go.Maps
/-- the list under way -/
def ListSt (w0 wr : World) (so : Value) (X : List Int) : Prop := OwnI w0.heap.size wr so X ∧ Below w0.heap.size w0 wr
theorem ListSt.push {w0 wr : World} {A : Option Addr} {n c : Nat} {X : List Int} (h : ListSt w0 wr (.slice A n c) X) (hn : n = X.length) (z : Int) (hX : X.length ≤ 9000000) :
    ∃ A' c' w', (Builtin.append_ #[24, 24] 24 #[.slice A n c, .slice (some ⟨wr.heap.size, 0, none⟩) 1 1]).run Try.prog (wr.alloc (.cells #[.int .i64 z] 3)) = .ok (.slice A' (n + 1) c') w' ∧ ListSt w0 w' (.slice A' (n + 1) c') (X ++ [z]) := by
  subst hn
  obtain ⟨A', c', w', hr, ho, hg, -⟩ := push_int 24 24 Try.underlying24 wr w0.heap.size _ X h.1 z (by omega) h.2.size
  exact ⟨A', c', w', hr, ho, h.2.grown hg h.2.size (fun k hk => (owns_block h.1 k hk).1)⟩
end Go.Proofs
namespace Go.Proofs
open Go.RowKit Go.Shelf Go.Proofs.Ct Go.Maps
def zero40 : Array Value := #[.int .i64 0, .slice none 0 0]
theorem build40z (w : World) : (Instr.build 27 #[]).run Try.prog w = .ok (.agg zero40) w := by kernel_rfl
theorem alloc40 (w : World) : (Instr.alloc 27 true (.tuple #[])).run Try.prog w = .ok (.pointer (some ⟨w.heap.size, 0, none⟩)) (w.alloc (.cells zero40 27)) := by kernel_rfl
theorem info40s : (Try.prog.info? 27).map (·.size) = some 2 := by kernel_rfl
theorem zero40_one : zero40.all (·.oneCell') = true := by simp [zero40, Value.oneCell']
theorem one40 (A : Option Addr) (n a : Nat) (x : Int) : (#[Value.int .i64 x, .slice A n a] : Array Value).all (·.oneCell') = true := by simp [Value.oneCell']
section
variable {o : Oper} {a : Act} {w w' : World} {n : Nat} {v : Value}
theorem r_store40 (x y : Operand) (ho : o.op = .store 27 x y) (g : Nat) (old c' : Array Value) (hx : a.eval x = .pointer (some ⟨g, 0, none⟩)) (hy : a.eval y = .agg c') (hg : w.heap[g]? = some (.cells old 27 (0, 0)))
    (hi : c'.size = 2) (hoo : old.size = 2) (h1 : c'.all (·.oneCell') = true) : (execOp a.eval o).run Try.prog w = .ok .skip (w.setRow g c') := by
  unfold execOp
  simp only [ho, hx, hy, Instr.storeAt, Instr.sureAddr, Sem.run_bind, Sem.run_pure, Result.andThen_ok, run_storeVar_row w g 27 27 old c' hg (by rw [hi]; exact info40s) (by rw [hi, hoo]) h1]
theorem r_build40 (ho : o.op = .build 27 #[]) : (execOp a.eval o).run Try.prog w = .ok (.value (.agg zero40)) w := by
  have hb := build40z w
  unfold execOp
  simp only [ho, List.map_toArray, List.map_nil, Sem.run_bind, hb, Result.andThen_ok]
  rfl
theorem r_alloc40 (ho : o.op = .alloc 27) : (execOp a.eval o).run Try.prog w = .ok (.value (.pointer (some ⟨w.heap.size, 0, none⟩))) (w.alloc (.cells zero40 27)) := by
  have hb := alloc40 w
  unfold execOp
  simp only [ho, Sem.run_bind, hb, Result.andThen_ok]
  rfl
end
theorem results_40_tmp {fn : Func} {p q : Tmp} (h : fn.results = #[.cell p 27, .tmp q]) (tmps : Array Value) (w : World) (g : Nat) (cs : Array Value) (u : Value)
    (hp : tmps.getD p undef = .pointer (some ⟨g, 0, none⟩)) (hq : tmps.getD q undef = u) (hg : w.heap[g]? = some (.cells cs 27 (0, 0))) (hs : cs.size = 2) :
    (results fn tmps).run Try.prog w = .ok (.tuple #[.agg cs, u]) w := by
  have hp' : tmps[p]?.getD undef = .pointer (some ⟨g, 0, none⟩) := by simpa using hp
  have hq' : tmps[q]?.getD undef = u := by simpa using hq
  simp [results, h, hp', hq', asAddr, run_loadVar_row w g 27 27 cs (0, 0) _ hg Try.underlying27 rfl (by rw [hs]; exact info40s)]
/-- the relators under way: the result's box b, the list in it -/
structure PrSt (F : Nat → Prop) (w0 : World) (m : Int) (wr : World) (A : Option Addr) (c : Nat) (acc : List W) : Prop where
  out : OutSt 24 F w0 wr (.slice A acc.length c) acc
  box : wr.heap[w0.heap.size]? = some (.cells #[.int .i64 m, .slice A acc.length c] 27 (0, 0))
theorem PrSt.below' {F : Nat → Prop} {w0 wr w' : World} {m : Int} {A : Option Addr} {c : Nat} {acc : List W} (h : PrSt F w0 m wr A c acc) (hb : Below wr.heap.size wr w') : PrSt F w0 m w' A c acc :=
  ⟨h.out.below' hb, (hb.block _ (Array.getElem?_eq_some_iff.1 h.box).1).trans h.box⟩
theorem PrSt.first (w0 : World) (m : Int) : PrSt (fun _ => False) w0 m ((w0.alloc (.cells zero40 27)).setRow w0.heap.size #[.int .i64 m, .slice none 0 0]) none 0 [] :=
  ⟨OutSt.nil 24 (below_boxed (Below.refl _ _) _ _), setRow_heap _ _ _ _ _ _ (heap_alloc_new w0 _)⟩
theorem PrSt.push {F : Nat → Prop} {w0 wr w1 : World} {m : Int} {A : Option Addr} {c : Nat} {acc : List W} (h : PrSt F w0 m wr A c acc) {Ax : Option Addr} {cx : Nat} {x : List Int} (hb : Below wr.heap.size wr w1) (hx : OwnI wr.heap.size w1 (.slice Ax x.length cx) x) (hf : Fits x) (hl : acc.length ≤ 9000000) :
    ∃ A' c' w', (Builtin.append_ #[25, 25] 25 #[.slice A acc.length c, .slice (some ⟨w1.heap.size, 0, none⟩) 1 1]).run Try.prog (w1.alloc (.cells #[.slice Ax x.length cx] 24)) = .ok (.slice A' (acc.length + 1) c') w' ∧
      (w'.cell? ⟨w0.heap.size, 1, none⟩ = some (.slice A acc.length c) ∧ w'.frozen? ⟨w0.heap.size, 1, none⟩ = false) ∧
      PrSt (fun k => F k ∨ (Value.slice Ax x.length cx).ownBlock = some k) w0 m (w'.setCell ⟨w0.heap.size, 1, none⟩ (.slice A' (acc.length + 1) c')) A' c' (acc ++ [x]) := by
  have h1 := h.below' hb
  obtain ⟨A', c', w', hr, hS, hg⟩ := (h.out.with_row hb hx).done' (t := 25) (e := 24) (by decide) Try.underlying25 info25p hf hl
  have hbx : w'.heap[w0.heap.size]? = some (.cells #[.int .i64 m, .slice A acc.length c] 27 (0, 0)) := grown_cells hg h1.box fun e => by
    obtain ⟨-, C, hC⟩ := h1.out.out.block _ e
    rw [h1.box] at hC
    cases hC
  refine ⟨A', c', w', hr, ⟨(cell_of2 hbx).2, by simp [World.frozen?, hbx]⟩, ?_, ?_⟩
  · have := hS.grown (grown_setCell w' w0.heap.size 1 (.slice A' (acc.length + 1) c')) fun r hr => by
      cases hr
      refine ⟨Nat.le_refl _, fun hF => ?_, fun e => ?_⟩
      · obtain ⟨-, -, C, hC⟩ := hS.fs _ hF
        rw [hbx] at hC
        cases hC
      · obtain ⟨-, C, hC⟩ := hS.out.block _ e
        rw [hbx] at hC
        cases hC
    rwa [show (acc ++ [x]).length = acc.length + 1 by simp]
  · rw [show (acc ++ [x]).length = acc.length + 1 by simp]
    simp [World.setCell, Array.getElem?_modify, hbx]
end Go.Proofs
namespace Go.Proofs
open Go.RowKit Go.Shelf Go.Proofs.Ct Go.Maps
theorem below_setRow {B : Nat} {w w1 : World} (h : Below B w w1) {g : Nat} (hg : B ≤ g) (cs : Array Value) : Below B w (w1.setRow g cs) :=
  h.trans ⟨rfl, rfl, rfl, by rw [World.setRow]; simp, fun k hk => setRow_other _ _ k _ (by omega)⟩
end Go.Proofs
