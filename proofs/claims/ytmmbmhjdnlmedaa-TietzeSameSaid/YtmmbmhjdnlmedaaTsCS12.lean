/- slices.SortFunc at words, by word.Cmp; slices.SortFunc at words, whole; pres.equal; slices.CompactFunc at words: what a list under way is; slices.CompactFunc at words, by pres.equal; pres.Clean. -/
import Derived.Test.YtmmbmhjdnlmedaaTsCS11
import Derived.Shelf.SlSortCmp.Whole1
import Derived.Shelf.Lay
import Derived.Ground.SlsfProg
import Derived.Test.YtmmbmhjdnlmedaaTsCS3
import Derived.Lib.SliceRun
import Derived.Lib.EndianMore
import Derived.Test.YtmmbmhjdnlmedaaTsCS5
import Derived.Test.YtmmbmhjdnlmedaaTsCS4
import Derived.Deep.RegionHeld3
namespace Go.Proofs
open Go.RowKit Go.Shelf Go.Lib Go.Sort Go.Proofs.Ct Go.Proofs.Tz
shelf_lay_g SlLaysF.n6 Slsf 6 at Try 63 as Try.sortW
def encV (vals : List Value) (i : Nat) : Value := vals.getD i (.slice none 0 0)
def cfW (xs : List (List Int)) (i j : Nat) : Int := cmpW (xs.getD i []) (xs.getD j [])
theorem swoW (xs : List (List Int)) : SWO (ltOf (cfW xs)) where
  irrefl i := by
    unfold ltOf cfW
    rw [cmpW_zero.2 rfl]
    rfl
  trans i j k h1 h2 := by
    unfold ltOf cfW at *
    rw [decide_eq_true_iff] at *
    exact cmpW_trans h1 h2
  ntrans i j k h1 h2 := by
    unfold ltOf cfW at *
    rw [decide_eq_false_iff_not] at *
    generalize xs.getD i [] = a at *
    generalize xs.getD j [] = b at *
    generalize xs.getD k [] = c at *
    intro h3
    have s1 := cmpW_swap a b
    have s2 := cmpW_swap b c
    rcases Int.lt_or_eq_of_le (show cmpW b a ≤ 0 by omega) with q1 | q1
    · have := cmpW_trans q1 h3
      omega
    · have e := cmpW_zero.1 q1
      subst e
      omega
theorem heap_sorted1 {α : Type} [Inhabited α] {enc : α → Value} {w : World} {g n : Nat} {os : Array Obj} {cur : Array Value} {e : TypeId} {fr : Nat × Nat} (F : Array α) (hb : w.heap[g]? = some (.cells cur e fr)) :
    (sortWorld enc w g 0 n F os).heap[g]? = some (.cells (putCells enc 0 F cur) e fr) := by
  have hg : g < w.heap.size := (Array.getElem?_eq_some_iff.1 hb).1
  unfold sortWorld
  rw [heap_grow_old _ _ (by simpa using hg)]
  simp [putRow, mapBlock, Sort.ahead, Array.getElem?_modify, hb, onCells]
theorem grownBy_sorted1 {α : Type} [Inhabited α] {enc : α → Value} {w : World} {g n : Nat} {os : Array Obj} (F : Array α) : w.grownBy (sortWorld enc w g 0 n F os) (some g) := by
  refine ⟨rfl, rfl, rfl, by simp [sortWorld], fun k hk hne => ?_⟩
  unfold sortWorld
  rw [heap_grow_old _ _ (by simpa using hk)]
  have : g ≠ k := fun e => hne (by rw [e])
  simp [putRow, mapBlock, Sort.ahead, Array.getElem?_modify, this]
theorem cmpLays46 {F : Nat → Prop} {w : World} {g : Nat} {vals : List Value} {xs : List (List Int)} (hr : RowsF F w vals xs) (hF : ∀ k, F k → k < w.heap.size ∧ k ≠ g) (hm : ∀ x ∈ xs, ∀ z ∈ x, Mild z) (size : Nat) : CmpLays1 Try.prog 46 #[] (encV vals) (cfW xs) g 0 size w := by
  intro m os dk _ i j
  have hI : ∀ i, IntsAt (sortWorld (encV vals) w g 0 m dk os) (encV vals i) (xs.getD i []) ∧ ∀ z ∈ xs.getD i [], Mild z := by
    intro i
    rcases Nat.lt_or_ge i xs.length with hl | hl
    · obtain ⟨u, hu, hx⟩ := hr.2 i hl
      refine ⟨?_, fun z hz => hm _ ?_ z hz⟩
      · unfold encV
        rw [List.getD_eq_getElem?_getD, hu]
        exact hx _ (Ag.grown (grownBy_sorted1 dk) fun k hk => ⟨(hF k hk).1, fun e => (hF k hk).2 (Option.some.inj e).symm⟩)
      · rw [List.getD_eq_getElem?_getD, List.getElem?_eq_getElem hl]
        exact List.getElem_mem hl
    · have e1 : xs.getD i [] = [] := by rw [List.getD_eq_getElem?_getD, List.getElem?_eq_none hl]; rfl
      have e2 : encV vals i = .slice none 0 0 := by unfold encV; rw [List.getD_eq_getElem?_getD, List.getElem?_eq_none (by rw [hr.1]; exact hl)]; rfl
      rw [e1, e2]
      exact ⟨⟨⟨none, 0, 0, rfl, rfl, Nat.le_refl _, by simp [maxLen], fun h => absurd h (by simp)⟩, fun z hz => by cases hz⟩, fun z hz => by cases hz⟩
  refine (cmp46_any _ _ _ _ _ (hI i).1 (hI j).1 (hI i).2 (hI j).2).mono ?_
  rintro e w' ⟨h1, q, os', h2⟩
  exact ⟨h1, q, os', h2⟩
theorem range_perm {n : Nat} {d : Array Nat} (h : PermIn 0 (Array.range n).size (Array.range n) d) : d.toList.Perm (List.range n) := by
  obtain ⟨h1, -, h3⟩ := h
  have e1 : (d.extract 0 (Array.range n).size).toList = d.toList := by rw [← h1, Array.extract_size]
  have e2 : ((Array.range n).extract 0 (Array.range n).size).toList = List.range n := by simp
  rw [e1, e2] at h3
  exact h3
theorem map_range_getD (xs : List (List Int)) : (List.range xs.length).map (fun i => xs.getD i []) = xs := by
  apply List.ext_getElem (by simp)
  intro i h1 h2
  simp [List.getD_eq_getElem?_getD, h2]
/-- the words in order -/
def Sorted (xs : List (List Int)) : Prop := xs.Pairwise fun a b => ¬ cmpW b a < 0
theorem sort63_some (base : Nat) (F : Nat → Prop) (w : World) (v : Value) (xs : List (List Int)) (h : OwnT 24 base F w v xs) (hn : xs ≠ []) (hF : ∀ k, F k → k < w.heap.size ∧ v.ownBlock ≠ some k) (hm : ∀ x ∈ xs, ∀ z ∈ x, Mild z) (hl : xs.length ≤ 1000000) :
    Calls Try.prog 63 #[v, .func (.func 46) #[] #[]] w fun e w' => e = .returned (.tuple #[]) ∧ ∃ ys, ys.Perm xs ∧ Sorted ys ∧ OwnT 24 base F w' v ys ∧ w.grownBy w' v.ownBlock := by
  obtain ⟨vals, ⟨hlen, ho⟩, hr⟩ := h
  rcases ho with ⟨-, e⟩ | ⟨g, cap, cur, rfl, hb, hC, h1, hmx, hs, ht⟩
  · exact absurd (List.eq_nil_of_length_eq_zero e) hn
  · have hg : g < w.heap.size := (Array.getElem?_eq_some_iff.1 hC).1
    have eg : ∀ args w, (callFunc 46 args).run Try.prog w = .ok (.enter 46 args) w := enters_of Try.func46 (by kernel_rfl) rfl
    have hvl : vals.length = xs.length := hr.1
    simp only [Nat.mul_one] at hs ht
    have hF' : ∀ k, F k → k < w.heap.size ∧ k ≠ g := fun k hk => ⟨(hF k hk).1, fun e => (hF k hk).2 (by subst e; rfl)⟩
    have hcell : ∀ j, j < xs.length → cur[j]? = some (encV vals j) := fun j hj => by
      have h5 : (cur.toList.take xs.length)[j]? = vals[j]? := by rw [ht]
      rw [List.getElem?_take, if_pos hj, Array.getElem?_toList, List.getElem?_eq_getElem (show j < vals.length by omega)] at h5
      rw [h5]
      unfold encV
      rw [List.getD_eq_getElem?_getD, List.getElem?_eq_getElem (show j < vals.length by omega)]
      rfl
    have hH : Holds (encV vals) w g 0 (Array.range xs.length) := by
      intro j hj
      have hj' : j < xs.length := by simpa using hj
      refine ⟨?_, by simp [World.frozen?, hC]⟩
      rw [Nat.zero_add, cell_of_row _ _ _ _ _ _ hC, hcell j hj']
      simp [hj']
    have h1c : OneCell (encV vals) := fun i => by
      rcases Nat.lt_or_ge i xs.length with hi | hi
      · obtain ⟨u, hu, hx⟩ := hr.2 i hi
        obtain ⟨A, c, rfl, -⟩ := hx.at_.open_
        unfold encV
        rw [List.getD_eq_getElem?_getD, hu]
        rfl
      · unfold encV
        rw [List.getD_eq_getElem?_getD, List.getElem?_eq_none (by omega)]
        rfl
    have hcon := Any.slices_SortFunc Try.sortW (encV vals) h1c (cfW xs) (swoW xs) 46 #[] g 0 cap (Array.range xs.length) w eg (cmpLays46 hr hF' hm _) hH hg (by simp; omega)
    have hcon2 : Calls Try.prog 63 #[.slice (some ⟨g, 0, none⟩) (Array.range xs.length).size cap, .func (.func 46) #[] #[]] w _ := hcon
    rw [Array.size_range] at hcon2
    refine hcon2.mono ?_
    rintro e w' ⟨rfl, d', n, os, hp, hsd, rfl⟩
    have hpr := range_perm (by simpa using hp)
    have hdl : d'.toList.length = xs.length := by rw [hpr.length_eq]; simp
    have hds : d'.size = xs.length := by simpa using hdl
    have hmem : ∀ i ∈ d'.toList, i < xs.length := fun i hi => by simpa using hpr.mem_iff.1 hi
    refine ⟨rfl, d'.toList.map (fun i => xs.getD i []), ?_, ?_, ?_, grownBy_sorted1 _⟩
    · have := hpr.map (fun i => xs.getD i [])
      rw [map_range_getD] at this
      exact this
    · unfold Sorted
      rw [List.pairwise_map, List.pairwise_iff_getElem]
      intro i j hi hj hij
      have hi' : i < d'.size := by simpa using hi
      have hj' : j < d'.size := by simpa using hj
      have h4 := hsd i j (Nat.zero_le _) hij (by omega)
      rw [getElem!_pos d' i hi', getElem!_pos d' j hj'] at h4
      have h5 : d'.toList[i] = d'[i] := by simp
      have h6 : d'.toList[j] = d'[j] := by simp
      rw [h5, h6]
      exact of_decide_eq_false h4
    · have hml : (d'.toList.map (fun i => xs.getD i [])).length = xs.length := by rw [List.length_map, hdl]
      refine ⟨d'.toList.map (encV vals), ⟨by rw [hml, List.length_map, hdl]; omega, .inr ⟨g, cap, putCells (encV vals) 0 d' cur, by rw [hml], hb, heap_sorted1 _ hC, by rw [hml]; exact h1, hmx, by simp [putCells, hs], ?_⟩⟩, by simp, ?_⟩
      · rw [hml, Nat.mul_one]
        apply List.ext_getElem?
        intro j
        by_cases hj : j < xs.length
        · have hjc : j < cur.size := by omega
          rw [List.getElem?_take, if_pos hj, Array.getElem?_toList]
          simp [putCells, hds, hj, hjc]
        · rw [List.getElem?_take_eq_none (by omega), List.getElem?_eq_none (by simp; omega)]
      · intro j hj
        rw [hml] at hj
        have hjd : j < d'.toList.length := by omega
        obtain ⟨u, hu, hx⟩ := hr.2 (d'.toList[j]) (hmem _ (List.getElem_mem hjd))
        refine ⟨u, ?_, ?_⟩
        · rw [List.getElem?_map, List.getElem?_eq_getElem hjd]
          simp only [Option.map_some]
          unfold encV
          rw [List.getD_eq_getElem?_getD, hu]
          rfl
        · rw [show (d'.toList.map (fun i => xs.getD i [])).getD j [] = xs.getD (d'.toList[j]) [] by rw [List.getD_eq_getElem?_getD, List.getElem?_map, List.getElem?_eq_getElem hjd]; rfl]
          exact hx.keep (Ag.grown (grownBy_sorted1 d') fun k hk => ⟨(hF' k hk).1, fun e => (hF' k hk).2 (Option.some.inj e).symm⟩)
end Go.Proofs
namespace Go.Proofs
open Go.RowKit Go.Shelf Go.Lib Go.Sort Go.Proofs.Ct Go.Proofs.Tz
theorem insertion78_nil (w : World) (A : Option Addr) (c : Nat) : Calls Try.prog 78 #[.slice A 0 c, .int .i64 0, .int .i64 0, .func (.func 46) #[] #[]] w fun e w' => e = .returned (.tuple #[]) ∧ ∃ q, w' = w.drewN q := by
  go_enter Try.func78, Try.ntmps78
  go_wp2_with fail
  go_loopw [8] (fun z wr => z = .int .i64 1 ∧ ∃ q, wr = w.drewN q) (fun _ _ => 0)
  case atStart => exact ⟨rfl, 0, rfl⟩
  case round =>
    obtain ⟨rfl, q, rfl⟩ := hrel
    go_wp2_with fail
    go_end0
    exact ⟨rfl, _, rfl⟩
theorem pdq74_nil (w : World) (A : Option Addr) (c : Nat) : Calls Try.prog 74 #[.slice A 0 c, .int .i64 0, .int .i64 0, .int .i64 0, .func (.func 46) #[] #[]] w fun e w' => e = .returned (.tuple #[]) ∧ ∃ q, w' = w.drewN q := by
  have HI := Lib.hid fun W => insertion78_nil W A c
  go_enter Try.func74, Try.ntmps74
  go_wp2_with fail
  go_loopw [1, 2] (fun za zb wr => za = .int .i64 0 ∧ zb = .int .i64 0 ∧ ∃ q, wr = w.drewN q) (fun _ _ _ => 0)
  case atStart => exact ⟨rfl, rfl, 0, rfl⟩
  case round =>
    obtain ⟨rfl, rfl, q, rfl⟩ := hrel
    go_wp2_with (go_at_call 78; (refine (HI.out _).mono ?_); rintro e w' ⟨rfl, q, rfl⟩)
    exact bodyPost_ret (v := .tuple #[]) (results_none rfl _ _ _) rfl ⟨rfl, by first | exact ⟨_, rfl⟩ | exact ex_drewN⟩
theorem sort63_nil (w : World) (A : Option Addr) (c : Nat) : Calls Try.prog 63 #[.slice A 0 c, .func (.func 46) #[] #[]] w fun e w' => e = .returned (.tuple #[]) ∧ ∃ q, w' = w.drewN q := by
  have hb : Calls Try.prog 75 #[.int .u64 0] w fun e w' => e = .returned (.int .i64 0) ∧ w' = w := Any.bits_Len (SlLaysF0.n15.bits (P := Try.prog) (ρ := Try.sortW_ren) { Try.sortW with }) 0 w (by omega) (by omega)
  have HB := Lib.hid hb
  have HP := Lib.hid fun W => pdq74_nil W A c
  clear hb
  go_enter Try.func63, Try.ntmps63
  go_wp2_with (first
    | (go_at_call 75; (refine HB.out.mono ?_); rintro e w' ⟨rfl, rfl⟩)
    | (go_at_call 74; (refine (HP.out _).mono ?_); rintro e w' ⟨rfl, q, rfl⟩))
  go_end0
  exact ⟨rfl, _, rfl⟩
theorem grownBy_drewN {w : World} (q : Nat) (r : Option Nat) : w.grownBy (w.drewN q) r := ⟨rfl, rfl, rfl, Nat.le_refl _, fun _ _ _ => rfl⟩
theorem sort63_any (base : Nat) (F : Nat → Prop) (w : World) (A : Option Addr) (c : Nat) (xs : List (List Int)) (h : OwnT 24 base F w (.slice A xs.length c) xs) (hF : ∀ k, F k → k < w.heap.size ∧ (Value.slice A xs.length c).ownBlock ≠ some k) (hm : ∀ x ∈ xs, ∀ z ∈ x, Mild z) (hl : xs.length ≤ 1000000) :
    Calls Try.prog 63 #[.slice A xs.length c, .func (.func 46) #[] #[]] w fun e w' => e = .returned (.tuple #[]) ∧ ∃ ys, ys.Perm xs ∧ Sorted ys ∧ OwnT 24 base F w' (.slice A xs.length c) ys ∧ w.grownBy w' (Value.slice A xs.length c).ownBlock := by
  by_cases hn : xs = []
  · subst hn
    obtain ⟨vals, ⟨hlen, ho⟩, hr⟩ := h
    refine (sort63_nil w A c).mono fun e w' ⟨h1, q, h2⟩ => ⟨h1, [], List.Perm.refl _, List.Pairwise.nil, ⟨vals, ⟨hlen, ?_⟩, ?_⟩, ?_⟩
    · rw [h2]; exact ho
    · rw [h2]; exact hr.keep (fun _ _ => rfl) fun _ h => h
    · rw [h2]; exact grownBy_drewN _ _
  · exact sort63_some base F w _ xs h hn hF hm hl
theorem equal47_any (w : World) (va vb : Value) (x y : List Int) (ha : IntsAt w va x) (hb : IntsAt w vb y) :
    Calls Try.prog 47 #[va, vb] w fun e w' => e = .returned (.bool (decide (x = y))) ∧ ∃ q, w' = w.drewN q := by
  have HE := Lib.hid (equal143_any w va vb x y ha hb)
  obtain ⟨A, c, rfl, -, -, -⟩ := ha.open_
  obtain ⟨B, d, rfl, -, -, -⟩ := hb.open_
  clear ha hb
  generalize decide (x = y) = t at *
  go_enter Try.func47, Try.ntmps47
  go_wp2_with (go_at_call 69; (refine HE.out.mono ?_); rintro e w' ⟨rfl, q, rfl⟩)
  go_ret
  exact ⟨rfl, _, rfl⟩
end Go.Proofs
namespace Go.Proofs
open Go.RowKit Go.Shelf Go.Lib Go.Sort Go.Proofs.Ct Go.Proofs.Tz
theorem compactL_snoc : ∀ (l : List (List Int)) (x : List Int), compactL (l ++ [x]) = if l.getLast? = some x then compactL l else compactL l ++ [x]
  | [], x => by simp [compactL]
  | [y], x => by
    by_cases h : y = x
    · subst h; simp [compactL]
    · simp [compactL, h]
  | y :: z :: l, x => by
    have ih := compactL_snoc (z :: l) x
    have e : (y :: z :: l).getLast? = (z :: l).getLast? := by simp [List.getLast?_cons_cons]
    rw [e]
    show compactL (y :: z :: (l ++ [x])) = _
    unfold compactL
    by_cases h : y = z
    · rw [if_pos h, if_pos h]; exact ih
    · rw [if_neg h, if_neg h]
      have ih' : compactL (z :: (l ++ [x])) = _ := ih
      rw [ih']
      split <;> simp
theorem compact_take {xs : List (List Int)} {m : Nat} (h1 : 1 ≤ m) (h2 : m < xs.length) : compactL (xs.take (m + 1)) = if xs.getD m [] = xs.getD (m - 1) [] then compactL (xs.take m) else compactL (xs.take m) ++ [xs.getD m []] := by
  rw [List.take_succ_eq_append_getElem h2, compactL_snoc]
  have e1 : xs.getD m [] = xs[m] := by simp [List.getD_eq_getElem?_getD, h2]
  have e2 : (xs.take m).getLast? = some (xs.getD (m - 1) []) := by
    rw [List.getLast?_eq_getElem?, List.length_take, List.getElem?_take, if_pos (by omega), Nat.min_eq_left (by omega), List.getElem?_eq_getElem (show m - 1 < xs.length by omega)]
    simp [List.getD_eq_getElem?_getD, show m - 1 < xs.length by omega]
  rw [e1, e2]
  by_cases h : xs[m] = xs.getD (m - 1) []
  · rw [if_pos h, if_pos (by rw [h])]
  · rw [if_neg h, if_neg (fun e => h (Option.some.inj e).symm)]
theorem RowsF.take {F : Nat → Prop} {w : World} {vals : List Value} {xs : List (List Int)} (h : RowsF F w vals xs) (k : Nat) : RowsF F w (vals.take k) (xs.take k) := by
  refine ⟨by rw [List.length_take, List.length_take, h.1], fun j hj => ?_⟩
  rw [List.length_take] at hj
  obtain ⟨u, h1, h2⟩ := h.2 j (by omega)
  exact ⟨u, by rw [List.getElem?_take, if_pos (by omega)]; exact h1, by rw [show (xs.take k).getD j [] = xs.getD j [] by simp [List.getD_eq_getElem?_getD, show j < k by omega]]; exact h2⟩
/-- the first m words are compacted into the first k places -/
structure CpS (F : Nat → Prop) (w : World) (g n : Nat) (cur : Array Value) (xs : List (List Int)) (m : Nat) (W : World) (k : Nat) : Prop where
  gb : w.grownBy W (some g)
  row : ∃ C, W.heap[g]? = some (.cells C 24 (0, 0)) ∧ C.size = cur.size ∧ RowsF F W (C.toList.take k) (compactL (xs.take m)) ∧ ∀ j, m - 1 ≤ j → j < n → C[j]? = cur[j]?
  len : (compactL (xs.take m)).length = k
/-- what the list was -/
structure CpB (F : Nat → Prop) (w : World) (g : Nat) (cur : Array Value) (xs : List (List Int)) : Prop where
  row : w.heap[g]? = some (.cells cur 24 (0, 0))
  size : xs.length ≤ cur.size
  rows : RowsF F w (cur.toList.take xs.length) xs
  fs : ∀ k, F k → k < w.heap.size ∧ k ≠ g
theorem CpB.ag {F : Nat → Prop} {w W : World} {g : Nat} {cur : Array Value} {xs : List (List Int)} (h : CpB F w g cur xs) (hg : w.grownBy W (some g)) : Ag F w W := Ag.grown hg fun k hk => ⟨(h.fs k hk).1, fun e => (h.fs k hk).2 (Option.some.inj e).symm⟩
theorem CpB.at_ {F : Nat → Prop} {w : World} {g : Nat} {cur : Array Value} {xs : List (List Int)} (h : CpB F w g cur xs) {j : Nat} (hj : j < xs.length) : ∃ u, cur[j]? = some u ∧ IntsF F w u (xs.getD j []) := by
  obtain ⟨u, h1, h2⟩ := h.rows.2 j hj
  rw [List.getElem?_take, if_pos hj, Array.getElem?_toList] at h1
  exact ⟨u, h1, h2⟩
theorem CpS.at_ {F : Nat → Prop} {w W : World} {g m k : Nat} {cur : Array Value} {xs : List (List Int)} (hB : CpB F w g cur xs) (h : CpS F w g xs.length cur xs m W k) {j : Nat} (h1 : m - 1 ≤ j) (h2 : j < xs.length) : ∃ u, cur[j]? = some u ∧ W.cell? ⟨g, j, none⟩ = some u ∧ IntsF F W u (xs.getD j []) := by
  obtain ⟨u, hu, hx⟩ := hB.at_ h2
  obtain ⟨C, hC, -, -, hc⟩ := h.row
  exact ⟨u, hu, by rw [cell_of_row _ _ _ _ _ _ hC, hc j h1 h2, hu], hx.keep (hB.ag h.gb)⟩
theorem CpB.start {F : Nat → Prop} {w : World} {g : Nat} {cur : Array Value} {xs : List (List Int)} (hB : CpB F w g cur xs) (q : Nat) {K : Nat} (h1 : 1 ≤ K) (h2 : K < xs.length) (he : xs.getD K [] = xs.getD (K - 1) []) (hz : compactL (xs.take K) = xs.take K) : CpS F w g xs.length cur xs (K + 1) (w.drewN q) K := by
  have e : compactL (xs.take (K + 1)) = xs.take K := by rw [compact_take h1 h2, if_pos he, hz]
  refine ⟨grownBy_drewN _ _, ⟨cur, hB.row, rfl, ?_, fun _ _ _ => rfl⟩, by rw [e, List.length_take]; omega⟩
  rw [e]
  have := hB.rows.take K
  rw [List.take_take, Nat.min_eq_left (by omega)] at this
  exact this.keep (fun _ _ => rfl) fun _ h => h
theorem CpS.drewN {F : Nat → Prop} {w W : World} {g m k : Nat} {cur : Array Value} {xs : List (List Int)} (h : CpS F w g xs.length cur xs m W k) (q : Nat) : CpS F w g xs.length cur xs m (W.drewN q) k :=
  let ⟨C, h1, h2, h3, h4⟩ := h.row
  ⟨⟨h.gb.os, h.gb.tape, h.gb.output, h.gb.size, h.gb.block⟩, ⟨C, h1, h2, h3.keep (fun _ _ => rfl) fun _ h => h, h4⟩, h.len⟩
theorem CpS.skip {F : Nat → Prop} {w W : World} {g m k : Nat} {cur : Array Value} {xs : List (List Int)} (h : CpS F w g xs.length cur xs m W k) (h1 : 1 ≤ m) (h2 : m < xs.length) (he : xs.getD m [] = xs.getD (m - 1) []) : CpS F w g xs.length cur xs (m + 1) W k := by
  have e : compactL (xs.take (m + 1)) = compactL (xs.take m) := by rw [compact_take h1 h2, if_pos he]
  obtain ⟨C, c1, c2, c3, c4⟩ := h.row
  exact ⟨h.gb, ⟨C, c1, c2, by rw [e]; exact c3, fun j hj hn => c4 j (by omega) hn⟩, by rw [e]; exact h.len⟩
theorem CpS.keep {F : Nat → Prop} {w W : World} {g m k : Nat} {cur : Array Value} {xs : List (List Int)} {u : Value} (hB : CpB F w g cur xs) (h : CpS F w g xs.length cur xs m W k) (h1 : 1 ≤ m) (h2 : m < xs.length) (hk : k < m) (he : ¬ xs.getD m [] = xs.getD (m - 1) []) (hu : cur[m]? = some u) :
    CpS F w g xs.length cur xs (m + 1) (W.setCell ⟨g, k, none⟩ u) (k + 1) := by
  have e : compactL (xs.take (m + 1)) = compactL (xs.take m) ++ [xs.getD m []] := by rw [compact_take h1 h2, if_neg he]
  obtain ⟨C, c1, c2, c3, c4⟩ := h.row
  have hgl := (Array.getElem?_eq_some_iff.1 c1).1
  have hsz := hB.size
  have hnew : (W.setCell ⟨g, k, none⟩ u).heap[g]? = some (.cells (C.setIfInBounds k u) 24 (0, 0)) := by
    rw [setCell_eq]
    simp [mapBlock, Array.getElem?_modify, c1, onCells]
  have hgb : W.grownBy (W.setCell ⟨g, k, none⟩ u) (some g) := by
    refine ⟨rfl, rfl, rfl, by simp [World.setCell], fun r hr hne => ?_⟩
    exact Below.heap_setCell W ⟨g, k, none⟩ _ r (fun e => hne (by rw [e]))
  have hag : Ag F W (W.setCell ⟨g, k, none⟩ u) := Ag.grown hgb fun r hr => ⟨Nat.lt_of_lt_of_le (hB.fs r hr).1 h.gb.size, fun e => (hB.fs r hr).2 (Option.some.inj e).symm⟩
  obtain ⟨u', hu', -, hx⟩ := h.at_ hB (j := m) (by omega) h2
  obtain rfl : u' = u := by rw [hu] at hu'; exact (Option.some.inj hu').symm
  refine ⟨⟨h.gb.os, h.gb.tape, h.gb.output, Nat.le_trans h.gb.size hgb.size, fun r hr hne => (hgb.block r (Nat.lt_of_lt_of_le hr h.gb.size) hne).trans (h.gb.block r hr hne)⟩, ⟨_, hnew, by simp [c2], ?_, fun j hj hn => ?_⟩, by rw [e, List.length_append, h.len]; rfl⟩
  · rw [e]
    have hkC : k < C.size := by omega
    have : (C.setIfInBounds k u').toList.take (k + 1) = C.toList.take k ++ [u'] := by
      apply List.ext_getElem?
      intro j
      rw [List.getElem?_take, Array.getElem?_toList, Array.getElem?_setIfInBounds]
      rcases Nat.lt_trichotomy j k with hj | hj | hj
      · rw [if_pos (by omega), if_neg (by omega), List.getElem?_append_left (by rw [List.length_take, Array.length_toList]; omega), List.getElem?_take, if_pos hj, Array.getElem?_toList]
      · subst hj
        rw [if_pos (by omega), if_pos rfl, if_pos hkC, List.getElem?_append_right (by rw [List.length_take]; omega), List.length_take, Array.length_toList, Nat.min_eq_left (by omega), Nat.sub_self]
        rfl
      · rw [if_neg (by omega), List.getElem?_eq_none (by rw [List.length_append, List.length_take, List.length_singleton]; omega)]
    rw [this]
    exact (c3.keep hag fun _ h => h).snoc (hx.keep hag)
  · rw [Array.getElem?_setIfInBounds, if_neg (by omega)]
    exact c4 j (by omega) hn
theorem zero24w (w : World) : (zeroValue 24).run Try.prog w = .ok (.slice none 0 0) w := by kernel_rfl
theorem grown_setCells (g : Nat) : ∀ (l : List Value) (i : Nat) (W : World), W.grownBy (W.setCells g i l) (some g)
  | [], i, W => ⟨rfl, rfl, rfl, Nat.le_refl _, fun _ _ _ => rfl⟩
  | v :: l, i, W => by
    have h2 : W.grownBy (W.setCell ⟨g, i, none⟩ v) (some g) := ⟨rfl, rfl, rfl, by simp [World.setCell], fun r _ hne => Below.heap_setCell W ⟨g, i, none⟩ _ r (fun e => hne (by rw [e]))⟩
    have h1 := grown_setCells g l (i + 1) (W.setCell ⟨g, i, none⟩ v)
    exact ⟨h1.os.trans h2.os, h1.tape.trans h2.tape, h1.output.trans h2.output, Nat.le_trans h2.size h1.size, fun r hr hne => (h1.block r (Nat.lt_of_lt_of_le hr h2.size) hne).trans (h2.block r hr hne)⟩
theorem heap_setCells (g : Nat) : ∀ (l : List Value) (i : Nat) (W : World) (C : Array Value), W.heap[g]? = some (.cells C 24 (0, 0)) → ∃ C', (W.setCells g i l).heap[g]? = some (.cells C' 24 (0, 0)) ∧ C'.size = C.size ∧ ∀ j, j < i → C'[j]? = C[j]?
  | [], i, W, C, h => ⟨C, h, rfl, fun _ _ => rfl⟩
  | v :: l, i, W, C, h => by
    have hgl := (Array.getElem?_eq_some_iff.1 h).1
    have hnew : (W.setCell ⟨g, i, none⟩ v).heap[g]? = some (.cells (C.setIfInBounds i v) 24 (0, 0)) := by
      rw [setCell_eq]
      simp [mapBlock, Array.getElem?_modify, h, onCells]
    obtain ⟨C', h1, h2, h3⟩ := heap_setCells g l (i + 1) _ _ hnew
    exact ⟨C', h1, by rw [h2]; simp, fun j hj => by rw [h3 j (by omega), Array.getElem?_setIfInBounds, if_neg (by omega)]⟩
/-- at the end the rest is cleared -/
theorem CpS.done {F : Nat → Prop} {w W : World} {g k base cap : Nat} {cur : Array Value} {xs : List (List Int)} (hB : CpB F w g cur xs) (h : CpS F w g xs.length cur xs xs.length W k) (hb : base ≤ g) (hc : cur.size = cap) (hm : cap ≤ maxLen) (hk : k ≤ xs.length) :
    OwnT 24 base F (W.setCells g k (List.replicate (xs.length - k) (.slice none 0 0))) (.slice (some ⟨g, 0, none⟩) k cap) (compactL xs) ∧ w.grownBy (W.setCells g k (List.replicate (xs.length - k) (.slice none 0 0))) (some g) ∧ (compactL xs).length = k := by
  obtain ⟨C, c1, c2, c3, -⟩ := h.row
  have hl := h.len
  rw [List.take_length] at hl c3
  have hsz := hB.size
  have g1 := grown_setCells g (List.replicate (xs.length - k) (.slice none 0 0)) k W
  obtain ⟨C', d1, d2, d3⟩ := heap_setCells g (List.replicate (xs.length - k) (.slice none 0 0)) k W C c1
  have hag : Ag F W (W.setCells g k (List.replicate (xs.length - k) (.slice none 0 0))) := Ag.grown g1 fun r hr => ⟨Nat.lt_of_lt_of_le (hB.fs r hr).1 h.gb.size, fun e => (hB.fs r hr).2 (Option.some.inj e).symm⟩
  refine ⟨⟨C'.toList.take k, ⟨?_, .inr ⟨g, cap, C', by rw [hl], hb, d1, by rw [hl]; omega, hm, by omega, by rw [hl, Nat.mul_one]⟩⟩, ?_⟩, ⟨g1.os.trans h.gb.os, g1.tape.trans h.gb.tape, g1.output.trans h.gb.output, Nat.le_trans h.gb.size g1.size, fun r hr hne => (g1.block r (Nat.lt_of_lt_of_le hr h.gb.size) hne).trans (h.gb.block r hr hne)⟩, hl⟩
  · rw [hl, List.length_take, Array.length_toList]; omega
  · have e : C'.toList.take k = C.toList.take k := by
      apply List.ext_getElem?
      intro j
      rw [List.getElem?_take, List.getElem?_take]
      split
      · rw [Array.getElem?_toList, Array.getElem?_toList]; exact d3 j (by omega)
      · rfl
    rw [e]
    exact c3.keep hag fun _ h => h
end Go.Proofs
namespace Go.Proofs
open Go.RowKit Go.Shelf Go.Lib Go.Sort Go.Proofs.Ct Go.Proofs.Tz
theorem quiet_more {P : Program} {f : FuncId} {args : Array Value} {w : World} {a n : Nat} {v : Value}
    (h : Calls P f args (w.drewN (a + n)) fun e w' => e = .returned v ∧ ∃ q, w' = (w.drewN (a + n)).drewN q) :
    Calls P f args (w.drewN (a + n)) fun e w'' => e = .returned v ∧ ∃ m, w'' = w.drewN (a + m) :=
  h.mono fun _ _ ⟨he, q, hq⟩ => ⟨he, n + q, by rw [hq, World.drewN_drewN, Nat.add_assoc]⟩
theorem quiet_more0 {P : Program} {f : FuncId} {args : Array Value} {w : World} {n : Nat} {v : Value}
    (h : Calls P f args (w.drewN n) fun e w' => e = .returned v ∧ ∃ q, w' = (w.drewN n).drewN q) :
    Calls P f args (w.drewN n) fun e w'' => e = .returned v ∧ ∃ m, w'' = w.drewN m :=
  h.mono fun _ _ ⟨he, q, hq⟩ => ⟨he, n + q, by rw [hq, World.drewN_drewN]⟩
theorem CpS.free {F : Nat → Prop} {w W : World} {g m k n i : Nat} {cur : Array Value} {xs : List (List Int)} (h : CpS F w g n cur xs m W k) (hi : i < cur.size) : (∃ z, W.cell? ⟨g, i, none⟩ = some z) ∧ W.frozen? ⟨g, i, none⟩ = false := by
  obtain ⟨C, c1, c2, -, -⟩ := h.row
  exact ⟨⟨C[i], by rw [cell_of_row _ _ _ _ _ _ c1]; simp [c2, hi]⟩, by simp [World.frozen?, c1]⟩
def CompPost (base : Nat) (F : Nat → Prop) (w : World) (g cap : Nat) (xs : List (List Int)) (e : Ending) (w' : World) : Prop :=
  e = .returned (.slice (some ⟨g, 0, none⟩) (compactL xs).length cap) ∧ OwnT 24 base F w' (.slice (some ⟨g, 0, none⟩) (compactL xs).length cap) (compactL xs) ∧ w.grownBy w' (some g)
set_option maxRecDepth 100000 in
set_option maxHeartbeats 4000000 in
theorem compact64_some (base : Nat) (F : Nat → Prop) (w : World) (g cap : Nat) (cur : Array Value) (xs : List (List Int)) (hB : CpB F w g cur xs) (hb : base ≤ g) (hc : cur.size = cap) (hm : cap ≤ maxLen) (hl : xs.length ≤ 1000000) (h0 : xs.length ≠ 0) :
    Calls Try.prog 64 #[.slice (some ⟨g, 0, none⟩) xs.length cap, .func (.func 47) #[] #[]] w (CompPost base F w g cap xs) := by
  have eg : ∀ args w, (callFunc 47 args).run Try.prog w = .ok (.enter 47 args) w := enters_of Try.func47 (by kernel_rfl) rfl
  have HB := Lib.hid hB
  have hcs := hB.size
  have hcap : xs.length ≤ cap := by omega
  have hcm : (cap : Int) ≤ 9223372036854775807 := by unfold maxLen at hm; omega
  have hn0 : (0 : Int) ≤ (xs.length : Int) := Int.natCast_nonneg _
  clear hcs
  by_cases h2 : xs.length < 2
  · have h2' : (xs.length : Int) < 2 := by omega
    have h1 : xs.length = 1 := by omega
    have HE : Hid (compactL xs = xs) := Lib.hid (by
      obtain ⟨x, rfl⟩ := List.length_eq_one_iff.1 h1
      rfl)
    have HR : Hid (CompPost base F w g cap xs (.returned (.slice (some ⟨g, 0, none⟩) xs.length cap)) w) := Lib.hid (by
      unfold CompPost
      rw [HE.out]
      exact ⟨rfl, ⟨_, ⟨by rw [List.length_take, Array.length_toList, Nat.mul_one]; exact Nat.min_eq_left HB.out.size, .inr ⟨g, cap, cur, rfl, hb, HB.out.row, hcap, hm, by omega, by rw [Nat.mul_one]⟩⟩, HB.out.rows⟩, ⟨rfl, rfl, rfl, Nat.le_refl _, fun _ _ _ => rfl⟩⟩)
    clear h1
    go_enter Try.func64, Try.ntmps64
    go_wp2_with fail
    go_ret
    exact HR.out
  · have h2' : ¬ (xs.length : Int) < 2 := by omega
    have hds : decide ((xs.length : Int) < 2) = false := decide_eq_false h2'
    go_enter Try.func64, Try.ntmps64
    go_wp2_with fail
    go_loopw [5] (fun z wr => ∃ k : Nat, 1 ≤ k ∧ k ≤ xs.length ∧ z = .int .i64 k ∧ compactL (xs.take k) = xs.take k ∧ ∃ q, wr = w.drewN q) (fun z _ => xs.length - (intOf z).toNat)
    case atStart => exact ⟨1, Nat.le_refl _, by omega, rfl, by
      cases xs with
      | nil => exact absurd rfl h0
      | cons x l => rfl, 0, rfl⟩
    case round =>
      obtain ⟨k, hk1, hk, rfl, hz, q, rfl⟩ := hrel
      have HZ := Lib.hid hz
      clear hz
      by_cases hlt : k < xs.length
      · obtain ⟨p, hp⟩ : ∃ p, p + 1 = k := ⟨k - 1, by omega⟩
        obtain ⟨u1, hu1, hx1⟩ := HB.out.at_ hlt
        obtain ⟨u2, hu2, hx2⟩ := HB.out.at_ (show p < xs.length by omega)
        have hcell1 : w.cell? ⟨g, k, none⟩ = some u1 := by rw [cell_of_row _ _ _ _ _ _ HB.out.row, hu1]
        have hcell2 : w.cell? ⟨g, p, none⟩ = some u2 := by rw [cell_of_row _ _ _ _ _ _ HB.out.row, hu2]
        have HC := Lib.hid fun W => equal47_any W u1 u2 (xs.getD k []) (xs.getD p [])
        have HX1 := Lib.hid hx1
        have HX2 := Lib.hid hx2
        have HC' : Hid (∀ r, Calls Try.prog 47 #[u1, u2] (w.drewN r) fun e w' => e = .returned (.bool (decide (xs.getD k [] = xs.getD p []))) ∧ ∃ q, w' = (w.drewN r).drewN q) := Lib.hid fun r => HC.out _ (hx1.at_.drewN r) (hx2.at_.drewN r)
        obtain ⟨A1, c1, rfl, -⟩ := hx1.at_.open_
        obtain ⟨A2, c2, rfl, -⟩ := hx2.at_.open_
        have HP := Lib.hid hp
        have hk1' : (k : Int) - 1 = (p : Int) := by omega
        have hk0 : (0 : Int) ≤ (k : Int) := Int.natCast_nonneg _
        have hkl : (k : Int) < (xs.length : Int) := by omega
        have hp0 : (0 : Int) ≤ (p : Int) := Int.natCast_nonneg _
        have hpl : (p : Int) < (xs.length : Int) := by omega
        have hpw : IntKind.i64.wrap (p : Int) = (p : Int) := by simp [IntKind.wrap, IntKind.bits, IntKind.signed]; omega
        clear hx1 hx2 hu1 hu2 hp
        by_cases he : xs.getD k [] = xs.getD p []
        · rw [decide_eq_true he] at HC'
          have HE : Hid (xs.getD k [] = xs.getD (k - 1) []) := Lib.hid (by rw [he, show p = k - 1 by have := HP.out; omega])
          clear he
          generalize (xs.getD k []).length = n1 at *
          generalize (xs.getD p []).length = n2 at *
          go_wp2_with fail
          go_quiet ((go_at_fn 47; first | exact quiet_more (HC'.out _) | exact quiet_more0 (HC'.out _)))
          have hSL : sliced (some ⟨g, 0, none⟩) k xs.length cap 1 = .slice (some ⟨g, k, none⟩) (xs.length - k) (cap - k) := by
            unfold sliced
            have : ¬ (cap - k = 0) := by omega
            simp [Addr.add_mid, show ¬ cap = k by omega]
          go_wp2_with ((with_reducible refine wpList_sel 31 ?_); refine wpList_val rfl ((run_sl_lo under25w size25w (.tmp 29) (.tmp 30) _ _ _ k rfl rfl rfl (by omega)).trans (congrArg (fun v => Result.ok (Next.value v) _) hSL)) ?_)
          have HST := Lib.hid fun r => HB.out.start r hk1 hlt HE.out HZ.out
          have HXE := Lib.hid (show p + 1 = k from HP.out)
          clear HC HC' HX1 HX2 hcell1 hcell2 hSL HE HZ
          go_loopw [5, 7] (fun zi zj wr => ∃ (i j : Nat), zi = .int .i64 i ∧ zj = .int .i64 j ∧ 1 ≤ j ∧ k + j ≤ xs.length ∧ i < k + j ∧ Hid (CpS F w g xs.length cur xs (k + j) wr i)) (fun _ zj _ => xs.length - k - (intOf zj).toNat)
          case atStart => exact ⟨k, 1, rfl, by go_num, Nat.le_refl _, hlt, by omega, Lib.hid (by first | exact HST.out _ | exact (HST.out _).drewN _)⟩
          case round =>
            obtain ⟨i, j, rfl, rfl, hj1, hj, hij, HS⟩ := hrel
            have hi0 : (0 : Int) ≤ (i : Int) := Int.natCast_nonneg _
            have hj0 : (0 : Int) ≤ (j : Int) := Int.natCast_nonneg _
            have hsub : ((xs.length - k : Nat) : Int) = (xs.length : Int) - (k : Int) := by omega
            by_cases hjl : k + j < xs.length
            · obtain ⟨t, ht⟩ : ∃ t, t + 1 = j := ⟨j - 1, by omega⟩
              obtain ⟨u1, hu1, hcell1, hx1⟩ := HS.out.at_ HB.out (j := k + j) (by omega) hjl
              obtain ⟨u2, hu2, hcell2, hx2⟩ := HS.out.at_ HB.out (j := k + t) (by omega) (by omega)
              have HU1 := Lib.hid hu1
              have HC : Hid (∀ r, Calls Try.prog 47 #[u1, u2] (wr.drewN r) fun e w' => e = .returned (.bool (decide (xs.getD (k + j) [] = xs.getD (k + t) []))) ∧ ∃ q, w' = (wr.drewN r).drewN q) := Lib.hid fun r => equal47_any _ u1 u2 _ _ (hx1.at_.drewN r) (hx2.at_.drewN r)
              obtain ⟨A1, c1, rfl, -⟩ := hx1.at_.open_
              obtain ⟨A2, c2, rfl, -⟩ := hx2.at_.open_
              have HT := Lib.hid ht
              have hj1' : (j : Int) - 1 = (t : Int) := by omega
              have ht0 : (0 : Int) ≤ (t : Int) := Int.natCast_nonneg _
              have hjk : j < xs.length - k := by omega
              have htk : t < xs.length - k := by omega
              have hjk' : (j : Int) < ((xs.length - k : Nat) : Int) := by omega
              have htk' : (t : Int) < ((xs.length - k : Nat) : Int) := by omega
              have htw : IntKind.i64.wrap (t : Int) = (t : Int) := by simp [IntKind.wrap, IntKind.bits, IntKind.signed]; omega
              clear hx1 hx2 hu1 hu2 ht hsub
              generalize (xs.getD (k + j) []).length = n1 at *
              generalize (xs.getD (k + t) []).length = n2 at *
              by_cases he : xs.getD (k + j) [] = xs.getD (k + t) []
              · rw [decide_eq_true he] at HC
                have HN := Lib.hid (HS.out.skip (by omega) hjl (by rw [he, show k + t = k + j - 1 by have := HT.out; omega]))
                clear he
                go_wp2_with fail
                go_quiet ((go_at_fn 47; first | exact quiet_more (HC.out _) | exact quiet_more0 (HC.out _)))
                go_wp2_with fail
                go_roundw
                case rel => exact ⟨i, j + 1, by go_num, by go_num, by omega, by omega, by omega, Lib.hid (by first | exact HN.out | exact HN.out.drewN _)⟩
                case measure => simp [intOf]; omega
              · rw [decide_eq_false he] at HC
                have HN := Lib.hid (HS.out.keep HB.out (by omega) hjl hij (by rw [show k + j - 1 = k + t by have := HT.out; omega]; exact he) HU1.out)
                clear he
                obtain ⟨⟨z, hz⟩, hfz⟩ := HS.out.free (i := i) (by have := HB.out.size; omega)
                have hil : (i : Int) < (xs.length : Int) := by omega
                go_wp2_with fail
                go_quiet ((go_at_fn 47; first | exact quiet_more (HC.out _) | exact quiet_more0 (HC.out _)))
                go_wp2_with fail
                go_roundw
                case rel => exact ⟨i + 1, j + 1, by go_num, by go_num, by omega, by omega, by omega, Lib.hid (by first | exact HN.out | exact HN.out.drewN _)⟩
                case measure => simp [intOf]; omega
            · have hje : k + j = xs.length := by omega
              have HSE : Hid (CpS F w g xs.length cur xs xs.length wr i) := Lib.hid (by rw [← hje]; exact hje ▸ HS.out)
              have hnlt : ¬ (j : Int) < ((xs.length - k : Nat) : Int) := by omega
              have hcl : ∀ ty, (Builtin.clear_ #[25] ty #[.slice (some ⟨g, i, none⟩) (xs.length - i) (cap - i)]).run Try.prog wr = .ok (.tuple #[]) (wr.setCells g i (List.replicate (xs.length - i) (.slice none 0 0))) := fun ty =>
                Lib.run_clear_slice wr _ _ ty _ Try.underlying25 zero24w rfl rfl g i _ _ (by omega) (fun t ht => by
                  obtain ⟨⟨z, hz⟩, -⟩ := HSE.out.free (i := i + t) (by have := HB.out.size; omega)
                  rw [hz]; rfl) (fun t ht => (HSE.out.free (i := i + t) (by have := HB.out.size; omega)).2)
              have HD := Lib.hid (HSE.out.done HB.out hb hc hm (by omega))
              have hilt : (i : Int) < (xs.length : Int) := by omega
              have hic : (i : Int) ≤ (cap : Int) := by omega
              have hcapi : ¬ cap = i := by omega
              clear hsub HS HST
              go_wp2_with fail
              go_ret
              exact ⟨by rw [HD.out.2.2]; rfl, by rw [HD.out.2.2]; exact HD.out.1, HD.out.2.1⟩
        · rw [decide_eq_false he] at HC'
          have HE : Hid (¬ xs.getD k [] = xs.getD (k - 1) []) := Lib.hid (by rw [show k - 1 = p by have := HP.out; omega]; exact he)
          clear he
          generalize (xs.getD k []).length = n1 at *
          generalize (xs.getD p []).length = n2 at *
          go_wp2_with fail
          go_quiet ((go_at_fn 47; first | exact quiet_more (HC'.out _) | exact quiet_more0 (HC'.out _)))
          go_wp2_with fail
          go_roundw
          case rel => exact ⟨k + 1, by omega, by omega, by go_num, by rw [compact_take hk1 hlt, if_neg HE.out, HZ.out, List.take_succ_eq_append_getElem hlt]; simp [List.getD_eq_getElem?_getD, hlt], (by first | exact ⟨_, rfl⟩ | exact ex_drewN)⟩
          case measure => simp [intOf]; omega
      · obtain rfl : k = xs.length := by omega
        have HE : Hid (compactL xs = xs) := Lib.hid (by have := HZ.out; rwa [List.take_length] at this)
        have HR : Hid (∀ r, CompPost base F w g cap xs (.returned (.slice (some ⟨g, 0, none⟩) xs.length cap)) (w.drewN r)) := Lib.hid fun r => (by
          unfold CompPost
          rw [HE.out]
          exact ⟨rfl, ⟨_, ⟨by rw [List.length_take, Array.length_toList, Nat.mul_one]; exact Nat.min_eq_left HB.out.size, .inr ⟨g, cap, cur, rfl, hb, HB.out.row, hcap, hm, by omega, by rw [Nat.mul_one]⟩⟩, HB.out.rows.keep (fun _ _ => rfl) fun _ h => h⟩, grownBy_drewN _ _⟩)
        go_wp2_with fail
        go_ret
        exact HR.out _
theorem ownBlock_len (A : Option Addr) (n m c d : Nat) : (Value.slice A n c).ownBlock = (Value.slice A m d).ownBlock := by cases A <;> rfl
theorem compact64_nil (w : World) (A : Option Addr) (c : Nat) : Calls Try.prog 64 #[.slice A 0 c, .func (.func 47) #[] #[]] w fun e w' => e = .returned (.slice A 0 c) ∧ w' = w := by
  go_enter Try.func64, Try.ntmps64
  go_wp2_with fail
  go_ret
  exact ⟨rfl, rfl⟩
def TidyPost (base : Nat) (F : Nat → Prop) (w : World) (A : Option Addr) (c : Nat) (zs : List (List Int)) (e : Ending) (w' : World) : Prop :=
  e = .returned (.slice A zs.length c) ∧ OwnT 24 base F w' (.slice A zs.length c) zs ∧ w.grownBy w' (Value.slice A zs.length c).ownBlock
theorem compact64_any (base : Nat) (F : Nat → Prop) (w : World) (A : Option Addr) (c : Nat) (xs : List (List Int)) (h : OwnT 24 base F w (.slice A xs.length c) xs) (hF : ∀ k, F k → k < w.heap.size ∧ (Value.slice A xs.length c).ownBlock ≠ some k) (hl : xs.length ≤ 1000000) :
    Calls Try.prog 64 #[.slice A xs.length c, .func (.func 47) #[] #[]] w (TidyPost base F w A c (compactL xs)) := by
  by_cases h0 : xs = []
  · subst h0
    refine (compact64_nil w A c).mono fun e w' ⟨h1, h2⟩ => ?_
    rw [h1, h2]
    exact ⟨rfl, h, rfl, rfl, rfl, Nat.le_refl _, fun _ _ _ => rfl⟩
  · have h0' : xs.length ≠ 0 := fun e => h0 (List.eq_nil_of_length_eq_zero e)
    obtain ⟨vals, ⟨hlen, ho⟩, hr⟩ := h
    rcases ho with ⟨-, e⟩ | ⟨g, cap, cur, e, hb, hC, h1, hm, hs, ht⟩
    · exact absurd e h0'
    · injection e with e1 _ e3
      subst e1 e3
      rw [Nat.mul_one] at hs ht
      refine (compact64_some base F w g c cur xs ⟨hC, by omega, by rw [ht]; exact hr, fun k hk => ⟨(hF k hk).1, fun e => (hF k hk).2 (by subst e; rfl)⟩⟩ hb hs hm hl h0').mono fun e w' h => h
/-- what is sorted and struck out has no word that was not there -/
theorem tidy45_any (base : Nat) (F : Nat → Prop) (w : World) (A : Option Addr) (c : Nat) (xs : List (List Int)) (h : OwnT 24 base F w (.slice A xs.length c) xs) (hF : ∀ k, F k → k < w.heap.size ∧ (Value.slice A xs.length c).ownBlock ≠ some k) (hm : ∀ x ∈ xs, ∀ z ∈ x, Mild z) (hl : xs.length ≤ 1000000) :
    Calls Try.prog 45 #[.slice A xs.length c, .func (.func 46) #[] #[], .func (.func 47) #[] #[]] w fun e w' => ∃ ys, ys.Perm xs ∧ Sorted ys ∧ TidyPost base F w A c (compactL ys) e w' := by
  have HS := Lib.hid (sort63_any base F w A c xs h hF hm hl)
  have HF := Lib.hid hF
  clear h hF hm
  go_enter Try.func45, Try.ntmps45
  go_wp2_with (first
    | (go_at_call 63
       refine HS.out.mono ?_
       rintro e w1 ⟨rfl, ys, hp, hsd, ho, hg⟩
       have HC := Lib.hid (compact64_any base F w1 A c ys (by rw [hp.length_eq]; exact ho) (fun k hk => ⟨Nat.lt_of_lt_of_le (HF.out k hk).1 hg.size, by rw [hp.length_eq]; exact (HF.out k hk).2⟩) (by rw [hp.length_eq]; exact hl))
       rw [hp.length_eq] at HC
       have HG := Lib.hid hg
       have HP := Lib.hid hp
       have HD := Lib.hid hsd
       clear hp hsd ho hg)
    | (go_at_call 64
       refine HC.out.mono ?_
       rintro e w2 ⟨rfl, ho2, hg2⟩))
  go_ret
  refine ⟨ys, HP.out, HD.out, rfl, ho2, ⟨hg2.os.trans HG.out.os, hg2.tape.trans HG.out.tape, hg2.output.trans HG.out.output, Nat.le_trans HG.out.size hg2.size, fun k hk hne => ?_⟩⟩
  exact (hg2.block k (Nat.lt_of_lt_of_le hk HG.out.size) hne).trans (HG.out.block k hk (by rw [ownBlock_len A _ (compactL ys).length c c]; exact hne))
end Go.Proofs
namespace Go.Proofs
open Go.RowKit Go.Shelf Go.Lib Go.Sort Go.Proofs.Ct Go.Proofs.Tz Go.Maps
section
variable {ops : Array Oper} {o : Oper} {a : Act} {w w' : World} {K : Act → World → Prop} {Q : Exit → Act → World → Prop} {E : Prop} {v : Value}
end
theorem OutSt.tidy {F : Nat → Prop} {w0 wr w' : World} {A : Option Addr} {n m c : Nat} {xs ys : List (List Int)} (h : OutSt 24 F w0 wr (.slice A n c) xs) (ho : OwnT 24 w0.heap.size F w' (.slice A m c) ys) (hg : wr.grownBy w' (Value.slice A m c).ownBlock) : OutSt 24 F w0 w' (.slice A m c) ys := by
  have hub := h.out.block
  rw [ownBlock_len A n m c c] at hub
  refine ⟨h.below.grown hg h.below.size (fun r hr => (hub r hr).1), ho, fun k hk => ?_⟩
  obtain ⟨h1, h2, C, hC⟩ := h.fs k hk
  refine ⟨h1, Nat.lt_of_lt_of_le h2 hg.size, C, grown_cells hg hC fun e => ?_⟩
  obtain ⟨-, C', hC'⟩ := hub k e
  rw [hC] at hC'
  injection hC' with h5
  injection h5 with _ h6 _
  exact absurd h6 (by decide)
theorem OutSt.sep {F : Nat → Prop} {w0 wr : World} {v : Value} {xs : List (List Int)} (h : OutSt 24 F w0 wr v xs) : ∀ k, F k → k < wr.heap.size ∧ v.ownBlock ≠ some k := fun k hk => by
  obtain ⟨h1, h2, C, hC⟩ := h.fs k hk
  refine ⟨h2, fun e => ?_⟩
  obtain ⟨-, C', hC'⟩ := h.out.block k e
  rw [hC] at hC'
  injection hC' with h5
  injection h5 with _ h6 _
  exact absurd h6 (by decide)
theorem cell_setRow {W : World} {b : Nat} {cs : Array Value} {p : Addr} (h : p.block ≠ b) : (W.setRow b cs).cell? p = W.cell? p := World.cell?_of_block (setRow_other _ _ _ _ h)
theorem OutSt.setRow {F : Nat → Prop} {w0 wr : World} {v : Value} {xs : List (List Int)} (h : OutSt 24 F w0 wr v xs) {b : Nat} {old cs : Array Value} (hb : wr.heap[b]? = some (.cells old 27 (0, 0))) (hw : w0.heap.size ≤ b) : OutSt 24 F w0 (wr.setRow b cs) v xs := by
  refine h.grown (row := some b) ⟨rfl, rfl, rfl, by rw [World.setRow]; simp, fun k _ hne => setRow_other _ _ k _ (fun e => hne (by rw [e]))⟩ fun r hr => ?_
  obtain rfl := Option.some.inj hr
  refine ⟨hw, fun hF => ?_, fun e => ?_⟩
  · obtain ⟨-, -, C, hC⟩ := h.fs _ hF
    rw [hb] at hC
    injection hC with h5
    injection h5 with _ h6 _
    exact absurd h6 (by decide)
  · obtain ⟨-, C, hC⟩ := h.out.block _ e
    rw [hb] at hC
    injection hC with h5
    injection h5 with _ h6 _
    exact absurd h6 (by decide)
theorem OutSt.base {F : Nat → Prop} {w w0 wr : World} {v : Value} {xs : List (List Int)} (hb : Below w.heap.size w w0) (h : OutSt 24 F w0 wr v xs) : OutSt 24 F w wr v xs := by
  obtain ⟨vals, h1, h2⟩ := h.out
  refine ⟨hb.trans (h.below.mono hb.size), ⟨vals, owns_base h1 hb.size, h2⟩, fun k hk => ?_⟩
  obtain ⟨a, b, c⟩ := h.fs k hk
  exact ⟨Nat.le_trans hb.size a, b, c⟩
theorem letsTo_mild {rels : List (List Int)} (h : ∀ j, j < rels.length → LOk 16 (rels.getD j [])) : ∀ k, k ≤ rels.length → ∀ x ∈ leastsTo rels k, ∀ z ∈ x, Mild z
  | 0, _, x, hx => by cases hx
  | k + 1, hk, x, hx => by
    have ih := letsTo_mild h k (by omega)
    change x ∈ (if leastW (rels.getD k []) = [] then leastsTo rels k else leastsTo rels k ++ [leastW (rels.getD k [])]) at hx
    split at hx
    · exact ih x hx
    · rcases List.mem_append.1 hx with h1 | h1
      · exact ih x h1
      · rw [List.mem_singleton.1 h1]
        exact leastOf_mild fun z hz => mild_ok (by omega) (h k (by omega)) z ((cyc_sub _).1 z hz)
theorem leastsTo_len (rels : List (List Int)) : ∀ k, (leastsTo rels k).length ≤ k
  | 0 => Nat.le_refl _
  | k + 1 => by
    have ih := leastsTo_len rels k
    show (if leastW (rels.getD k []) = [] then leastsTo rels k else leastsTo rels k ++ [leastW (rels.getD k [])]).length ≤ k + 1
    split
    · omega
    · rw [List.length_append, List.length_singleton]; omega
theorem two_set {W : World} {b : Nat} {o1 o2 x y : Value} {T : TypeId} (h : W.heap[b]? = some (.cells #[o1, o2] T (0, 0))) : (W.setCell ⟨b, 0, none⟩ x).setCell ⟨b, 1, none⟩ y = W.setRow b #[x, y] := by
  rw [setCell_eq, setCell_eq]
  unfold mapBlock World.setRow
  congr 1
  apply Array.ext_getElem?
  intro i
  by_cases hi : b = i
  · subst hi
    simp [Array.getElem?_modify, h, onCells]
  · simp [Array.getElem?_modify, hi]
theorem two_facts {W : World} {b : Nat} {o1 o2 : Value} {T : TypeId} (h : W.heap[b]? = some (.cells #[o1, o2] T (0, 0))) (x : Value) : W.cell? ⟨b, 0, none⟩ = some o1 ∧ W.frozen? ⟨b, 0, none⟩ = false ∧ (W.setCell ⟨b, 0, none⟩ x).cell? ⟨b, 1, none⟩ = some o2 ∧ (W.setCell ⟨b, 0, none⟩ x).frozen? ⟨b, 1, none⟩ = false := by
  have h2 : (W.setCell ⟨b, 0, none⟩ x).heap[b]? = some (.cells #[x, o2] T (0, 0)) := by
    rw [setCell_eq]
    simp [mapBlock, Array.getElem?_modify, h, onCells]
  exact ⟨by rw [cell_of_row _ _ _ _ _ _ h]; rfl, by simp [World.frozen?, h], by rw [cell_of_row _ _ _ _ _ _ h2]; rfl, by simp [World.frozen?, h2]⟩
def CleanPost (g : Int) (rels : List (List Int)) (w : World) (e : Ending) (w' : World) : Prop :=
  ∃ A c F, e = .returned (.tuple #[.agg #[.int .i64 g, .slice A (cleanL rels).length c], .int .i64 0]) ∧ OutSt 24 F w w' (.slice A (cleanL rels).length c) (cleanL rels)
set_option maxRecDepth 100000 in
set_option maxHeartbeats 4000000 in
theorem clean26_ok (w : World) (vr : Value) (g : Int) (rels : List (List Int)) (hR : Tab w vr rels) (he : presE g rels = 0) : Calls Try.prog 26 #[.agg #[.int .i64 g, vr]] w (CleanPost g rels w) := by
  obtain ⟨Ar, cr, rfl⟩ := Tab.form hR
  have H19 : Hid (∀ W, Tab W (.slice Ar rels.length cr) rels → Calls Try.prog 19 #[.agg #[.int .i64 g, .slice Ar rels.length cr]] W fun e w' => (∃ y, e = .returned (.tuple #[.int .i64 0, .int .i64 y])) ∧ Below W.heap.size W w') := Lib.hid fun W h => by
    have := pcheck78_any W _ g rels h
    unfold PresPost at this
    rw [he] at this
    exact this
  obtain ⟨gn, -, hg1, hg2, hln, hall⟩ := presE_good he
  have hok : ∀ j, j < rels.length → LOk 16 (rels.getD j []) ∧ (rels.getD j []).length ≤ 4000 := fun j hj => ⟨fun x hx => by have := (hall j hj).1 x hx; omega, (hall j hj).2⟩
  have HOK := Lib.hid hok
  clear he hall hok hg1 hg2
  have HPB : Hid (∀ w0 : World, w0 = (w.alloc (.cells #[.int .i64 g, .slice Ar rels.length cr] 27)).alloc (.cells zero40 27) → Below w.heap.size w w0 ∧ w0.heap.size = w.heap.size + 2 ∧ w0.heap[w.heap.size]? = some (.cells #[.int .i64 g, .slice Ar rels.length cr] 27 (0, 0)) ∧ w0.heap[w.heap.size + 1]? = some (.cells zero40 27 (0, 0))) := Lib.hid fun w0 h => by
    subst h
    refine ⟨((Below.refl _ _).alloc (Nat.le_refl _) _).alloc (by simp) _, by simp, ?_, ?_⟩
    · exact (Below.heap_alloc (w.alloc _) _ w.heap.size (by simp)).trans (heap_alloc_new w _)
    · have := heap_alloc_new (w.alloc (.cells #[.int .i64 g, .slice Ar rels.length cr] 27)) (.cells zero40 27); rwa [World.size_alloc] at this
  have HRR := Lib.hid hR
  clear hR
  have hr0 : (0 : Int) ≤ (rels.length : Int) := Int.natCast_nonneg _
  go_enter Try.func26, Try.ntmps26
  go_wp2_with ((with_reducible refine wpList_sel 2 ?_); refine wpList_val rfl (r_alloc40 rfl) ?_)
  generalize hw0 : (w.alloc (.cells #[.int .i64 g, .slice Ar rels.length cr] 27)).alloc (.cells zero40 27) = w0 at *
  obtain ⟨hb0, hsz, hbp, hbr⟩ := HPB.out w0 rfl
  have HB0 := Lib.hid hb0
  have HSZ := Lib.hid hsz
  have HBP := Lib.hid hbp
  have HBX : Hid (∀ W, Below w0.heap.size w0 W → (W.cell? ⟨w.heap.size, 0, none⟩ = some (.int .i64 g) ∧ W.cell? ⟨w.heap.size, 1, none⟩ = some (.slice Ar rels.length cr)) ∧ W.heap[w.heap.size]? = some (.cells #[.int .i64 g, .slice Ar rels.length cr] 27 (0, 0)) ∧ W.heap[w.heap.size + 1]? = some (.cells zero40 27 (0, 0)) ∧ w.heap.size + 1 < W.heap.size) := Lib.hid fun W h => by
    have h1 := (h.block _ (Array.getElem?_eq_some_iff.1 hbp).1).trans hbp
    have h2 := (h.block _ (Array.getElem?_eq_some_iff.1 hbr).1).trans hbr
    exact ⟨cell_of2 h1, h1, h2, (Array.getElem?_eq_some_iff.1 h2).1⟩
  have HR0 := Lib.hid (kept_tab.below HRR.out hb0)
  clear hw0 hb0 hsz hbp hbr HPB HRR
  go_wp2_with (first
    | ((with_reducible refine wpList_sel 11 ?_); refine wpList_val rfl (r_loadAt 27 (.tmp 1) _ _ rfl rfl (load40 HBP.out)) ?_)
    | (go_at_call 19; (with_reducible refine (H19.out w0 HR0.out).mono ?_); rintro e w1 ⟨⟨y, rfl⟩, hb⟩
       have HB1 := Lib.hid hb
       obtain ⟨⟨p1, q1⟩, x1⟩ := HBX.out _ hb
       clear hb x1))
  go_loopw [6, 8, 9, 22] (fun va _ _ z wr => ∃ (k : Nat) (A : Option Addr) (c : Nat) (F : Nat → Prop), k ≤ rels.length ∧ z = .int .i64 k ∧ va = .slice A (leastsTo rels k).length c ∧ Hid (OutSt 24 F w1 wr (.slice A (leastsTo rels k).length c) (leastsTo rels k))) (fun _ _ _ z _ => rels.length - (intOf z).toNat)
  case atStart => exact ⟨0, none, 0, _, Nat.zero_le _, rfl, rfl, Lib.hid (OutSt.nil 24 (Below.refl _ _))⟩
  case round =>
    obtain ⟨k, A, c, F, hk, rfl, rfl, HS⟩ := hrel
    have HBW : Hid (Below w0.heap.size w0 wr) := Lib.hid (HB1.out.trans (HS.out.below.mono HB1.out.size))
    have hk0 : (0 : Int) ≤ (k : Int) := Int.natCast_nonneg _
    have hll := leastsTo_len rels k
    by_cases hlt : k < rels.length
    · have hlt' : (k : Int) < (rels.length : Int) := by omega
      obtain ⟨A', c', e', t1, t2, t3⟩ := (kept_tab.below HR0.out HBW.out).open_
      injection e' with e1 _ e3
      subst e1 e3
      obtain ⟨b, o, rfl, hcc⟩ := t3 (by omega)
      obtain ⟨u, hu, hI⟩ := hcc k hlt
      have hL := least44_any wr u (rels.getD k []) hI (HOK.out k hlt).1 (HOK.out k hlt).2
      unfold OwnPost at hL
      have HL := Lib.hid hL
      obtain ⟨Au, cu, rfl, -⟩ := hI.open_
      have HFY : Hid (Fits (leastW (rels.getD k []))) := Lib.hid (Mild.fits (mild_ok (by omega) (leastW_ok (HOK.out k hlt).1)))
      have HST : Hid (leastsTo rels (k + 1) = if leastW (rels.getD k []) = [] then leastsTo rels k else leastsTo rels k ++ [leastW (rels.getD k [])]) := Lib.hid rfl
      clear hcc hI hL t1 t2 t3
      generalize (rels.getD k []).length = lx at *
      generalize leastW (rels.getD k []) = y at *
      by_cases hy : y = []
      · subst hy
        rw [if_pos rfl] at HST
        go_wp2_with (go_at_call 44; (refine HL.out.mono ?_); rintro e w2 ⟨A2, c2, rfl, ho, hb⟩)
        go_roundw
        case rel => exact ⟨k + 1, A, c, F, by omega, by go_num, by rw [HST.out], Lib.hid (by rw [HST.out]; exact HS.out.below' hb)⟩
        case measure => simp [intOf]; omega
      · rw [if_neg hy] at HST
        have hy1 : (0 : Int) < (y.length : Int) := by
          have : y.length ≠ 0 := fun e => hy (List.eq_nil_of_length_eq_zero e)
          omega
        clear hy
        go_wp2_with (first
          | (go_at_call 44; (refine HL.out.mono ?_); rintro e w2 ⟨A2, c2, rfl, ho, hb⟩
             obtain ⟨A8, c8, w8, hr8, hS8⟩ := (HS.out.with_row hb ho).done (by decide) Try.underlying25 info25p HFY.out (by omega)
             have HR8 := Lib.hid hr8
             have HS8 := Lib.hid hS8
             clear hr8 hS8 ho hb)
          | ((with_reducible refine wpList_sel 34 ?_); refine wpList_val rfl (r_app (.tmp 31) (.tmp 33) 25 rfl rfl rfl HR8.out) ?_))
        go_roundw
        case rel => exact ⟨k + 1, A8, c8, _, by omega, by go_num, by rw [HST.out, List.length_append]; rfl, Lib.hid (by rw [HST.out, List.length_append]; exact HS8.out)⟩
        case measure => simp [intOf]; omega
    · obtain rfl : k = rels.length := by omega
      obtain ⟨⟨p1, q1⟩, hx1, hx2, -⟩ := HBX.out _ HBW.out
      have HX2 := Lib.hid hx2
      clear hx1 hx2 q1
      have HSD := Lib.hid (HS.out.below' ((Below.refl wr.heap.size wr).drew))
      have HTD := Lib.hid (tidy45_any w1.heap.size F wr.drew A c _ HSD.out.out HSD.out.sep (letsTo_mild (fun j hj => (HOK.out j hj).1) _ (Nat.le_refl _)) (by omega))
      have HCL : Hid (∀ ys : List (List Int), ys.Perm (leastsTo rels rels.length) → Sorted ys → compactL ys = cleanL rels) := Lib.hid fun ys h1 h2 => clean_of_sorted h1 h2
      generalize leastsTo rels rels.length = ls at *
      go_wp2_with fail
      go_region_held3 (fun w' => w'.cell? ⟨w.heap.size, 0, none⟩ = some (.int .i64 g)) (first | exact p1 | exact HK9.out | exact HK8.out)
        (first
        | (go_at_call 45
           refine HTD.out.mono ?_
           rintro e w9 ⟨ys, h1, h2, rfl, h4, h5⟩
           have hS9 := HSD.out.tidy h4 h5
           rw [HCL.out ys h1 h2] at hS9
           rw [HCL.out ys h1 h2]
           have HS9 := Lib.hid hS9
           have HX9 := Lib.hid (HBX.out _ (HB1.out.trans (hS9.below.mono HB1.out.size))).2
           have HK9 := Lib.hid (HBX.out _ (HB1.out.trans (hS9.below.mono HB1.out.size))).1.1
           have HSR := Lib.hid (fun x y => two_set (x := x) (y := y) HX9.out.2.1)
           obtain ⟨z1, z2, z3, z4⟩ := two_facts HX9.out.2.1 (.int .i64 g)
           have HK8 : Hid (((w9.setCell ⟨w.heap.size + 1, 0, none⟩ (.int .i64 g)).setCell ⟨w.heap.size + 1, 1, none⟩ (.slice A (cleanL rels).length c)).cell? ⟨w.heap.size, 0, none⟩ = some (.int .i64 g)) := Lib.hid (by rw [HSR.out]; exact (cell_setRow (by show w.heap.size ≠ w.heap.size + 1; omega)).trans HK9.out)
           clear h1 h2 h4 h5 hS9))
      all_goals
        go_wp2_with fail
        try simp only [Exit.inBlock, Exit.then]
        refine bodyPost_ret (results_40_tmp (p := 2) (q := 3) rfl _ _ (w.heap.size + 1) #[.int .i64 g, .slice A (cleanL rels).length c] (.int .i64 0) rfl rfl (by rw [HSR.out]; exact setRow_heap _ _ _ _ _ _ HX9.out.2.1) rfl) rfl ⟨A, c, F, rfl, ?_⟩
        rw [HSR.out]
        exact (OutSt.base (HB0.out.trans (HB1.out.mono HB0.out.size)) HS9.out).setRow HX9.out.2.1 (Nat.le_succ _)
end Go.Proofs
