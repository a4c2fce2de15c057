/- take and Mul of a live group. -/
import Derived.Test.YtnhoiompdjabbaaOrd
namespace Go.Proofs
open Go.RowKit Go.Proofs.Pc

theorem setCell_alloc (w : World) (C : Array Value) (t : TypeId) (o : Nat) (v : Value) : (w.alloc (.cells C t)).setCell ⟨w.heap.size, o, none⟩ v = w.alloc (.cells (C.setIfInBounds o v) t) := by
  unfold World.setCell World.alloc
  congr 1
  apply Array.ext_getElem?
  intro k
  rw [Array.getElem?_modify]
  by_cases h : w.heap.size = k
  · subst h; simp
  · rw [if_neg h]
    simp only [Array.getElem?_push]
    rw [if_neg (fun e => h e.symm), if_neg (fun e => h e.symm)]
def fill (C : Array Value) : Nat → List Value → Array Value
  | _, [] => C
  | o, v :: r => fill (C.setIfInBounds o v) (o + 1) r
theorem fill_size : ∀ (vs : List Value) (C : Array Value) (o : Nat), (fill C o vs).size = C.size
  | [], _, _ => rfl
  | v :: r, C, o => by rw [fill, fill_size r]; simp
theorem setCells_alloc : ∀ (vs : List Value) (w : World) (C : Array Value) (t : TypeId) (o : Nat), (w.alloc (.cells C t)).setCells w.heap.size o vs = w.alloc (.cells (fill C o vs) t)
  | [], _, _, _, _ => rfl
  | v :: r, w, C, t, o => by rw [World.setCells, setCell_alloc, setCells_alloc r, fill]
theorem fill_vec (w : World) (xs : List Int) (h : xs.length ≤ 12) : (w.alloc (.cells (vec []).toArray 82)).setCells w.heap.size 0 (ints xs) = w.alloc (.cells (vec xs).toArray 82) := by
  have h1 := rangeAt_fill (range_new w []) h
  rw [setCells_alloc] at h1 ⊢
  have e : fill (vec []).toArray 0 (ints xs) = (vec xs).toArray := by
    apply Array.ext_getElem?
    intro k
    rcases Nat.lt_or_ge k 12 with hk | hk
    · have h2 := h1 k _ (getElem?_vec xs hk)
      rw [cell_of_row _ _ _ _ _ _ (heap_alloc_new w _)] at h2
      rw [vec_get xs hk]
      simpa using h2
    · rw [Array.getElem?_eq_none (by rw [fill_size, size_vec]; exact hk), Array.getElem?_eq_none (by rw [size_vec]; exact hk)]
  rw [e]

def takeErr (P : PcD) (xs : List Int) : Int := if xs.length = P.n then (if normalB P.orders xs 0 then 0 else 2) else 3
def takeVec (P : PcD) (xs : List Int) : List Int := if takeErr P xs = 0 then xs else []

theorem intsAt_sub {w : World} {b o n cap : Nat} {x : List Int} (hr : w.rangeAt b o (vec x)) (hx : x.length = n) (hn : n ≤ 12) (hc : n ≤ cap) (hm : cap ≤ 12) (hf : Fits x) : IntsAt w (.slice (some ⟨b, o, none⟩) n cap) x :=
  ⟨⟨_, n, cap, rfl, by simp [ints, hx], hc, by simp [maxLen]; omega, fun _ => ⟨b, o, rfl, fun j u hu => by
    have hj : j < x.length := by
      rcases Nat.lt_or_ge j x.length with h | h
      · exact h
      · rw [List.getElem?_eq_none (by simpa [ints] using h)] at hu; cases hu
    refine hr j u ?_
    have := vec_get x (show j < 12 by omega)
    rw [List.getElem?_toArray] at this
    rw [this, ← hu]
    simp [ints, hj]⟩⟩, hf⟩

/-- the twelve orders as a slice -/
def ord12 (P : PcD) : List Int := (List.range 12).map fun k => P.orders.getD k 0
theorem vec_ord12 (P : PcD) : vec (ord12 P) = vec P.orders := by
  unfold vec ord12
  refine List.map_congr_left fun k hk => ?_
  have hk' : k < 12 := by simpa using hk
  rw [List.getD_eq_getElem?_getD, List.getElem?_map, List.getElem?_range hk']
  rfl
theorem ord12_getD (P : PcD) {k : Nat} (h : k < 12) : (ord12 P).getD k 0 = P.orders.getD k 0 := by
  unfold ord12
  rw [List.getD_eq_getElem?_getD, List.getElem?_map, List.getElem?_range h]; rfl
theorem normal_ord12 (P : PcD) (xs : List Int) (a : Int) (h : xs.length ≤ 12) : normalB (ord12 P) xs a = normalB P.orders xs a := by
  unfold normalB
  have : ∀ k ∈ List.range xs.length, normAt (ord12 P) xs a k = normAt P.orders xs a k := fun k hk => by
    have hk' : k < xs.length := by simpa using hk
    unfold normAt
    rw [ord12_getD P (by omega)]
  rw [Bool.eq_iff_iff, List.all_eq_true, List.all_eq_true]
  exact ⟨fun hh k hk => (this k hk) ▸ hh k hk, fun hh k hk => (this k hk).symm ▸ hh k hk⟩
theorem ord12_fits {P : PcD} (hv : Valid P) : Fits (ord12 P) := fun y hy => by
  obtain ⟨k, hk, rfl⟩ := List.mem_map.1 hy
  have hk' : k < 12 := by simpa using hk
  rcases Nat.lt_or_ge k P.n with h | h
  · have := hv.ord2 k h
    unfold PcD.ord at this
    omega
  · rw [List.getD_eq_getElem?_getD, List.getElem?_eq_none h]; simp

theorem run_sliceAt_veca (w : World) (b o : Nat) : (Instr.sliceAt 82 (.pointer (some ⟨b, o, none⟩)) none none none).run Try.prog w = .ok (.slice (some ⟨b, o, none⟩) 12 12) w := by
  obtain ⟨i, hi⟩ := info3
  simp [Instr.sliceAt, run_underlying Try.underlying82, Instr.sureAddr, Instr.sliceBounds, sizeOf, typeInfo, hi]
  rw [Addr.add_mid, Nat.add_zero]
theorem there_new (w : World) (x : List Int) : (w.alloc (.cells (vec x).toArray 82)).there w.heap.size 0 12 := fun j hj =>
  ⟨by have := range_new w x j _ (getElem?_vec x hj); rw [this]; rfl, by
    have h : World.frozen? (w.alloc (.cells (vec x).toArray 82)) ⟨w.heap.size, 0 + j, none⟩ = false := by
      unfold World.frozen?
      rw [heap_alloc_new]
      simp
    exact h⟩

set_option maxRecDepth 100000 in
set_option maxHeartbeats 400000 in
theorem take_live {P : PcD} (hv : Valid P) (w : World) (bg br : Nat) (hg : Live w bg br) (hr : RulesAt w br P) (sv : Value) (xs : List Int) (hs : IntsAt w sv xs) :
    Calls Try.prog 69 #[.pointer (some ⟨bg, 0, none⟩), sv] w fun e w' => e = .returned (.tuple #[.agg (vec (takeVec P xs)).toArray, .int .i64 (takeErr P xs)]) ∧ Below w.heap.size w w' := by
  have hb1 : Below w.heap.size w (w.alloc (.cells (vec []).toArray 82)) := (Below.refl _ _).alloc (Nat.le_refl _) _
  have hk1 : KC w (w.alloc (.cells (vec []).toArray 82)) := KC.of_below hb1
  have hge : Live (w.alloc (.cells (vec []).toArray 82)) bg br := hk1.cell hg
  have hgc : (w.alloc (.cells (vec []).toArray 82)).cell? ⟨bg, 0, none⟩ = some (.pointer (some ⟨br, 0, none⟩)) := hge
  have hrn := (hk1.rules hr).n
  have hro := (hk1.rules hr).ord
  have hs1 := hs.below hb1
  have h12 := hv.n12
  obtain ⟨A, cap, rfl, hc1, hc2, hcs⟩ := hs.open_
  have hst := @store_vec_same
  have HO : IntsAt (w.alloc (.cells (vec []).toArray 82)) (.slice (some ⟨br, 1, none⟩) 12 12) (ord12 P) := intsAt_sub (by rw [vec_ord12]; exact hro) (by simp [ord12]) (Nat.le_refl _) (Nat.le_refl _) (Nat.le_refl _) (ord12_fits hv)
  have HB1 := Lib.hid hb1
  clear hr hg hs hcs hro hk1 hb1
  by_cases hl : xs.length = P.n
  · have hcp := copy12 (w := w.alloc (.cells (vec []).toArray 82)) (b := w.heap.size) (o := 0) hs1 (by omega) (there_new w [])
    rw [fill_vec w xs (by omega)] at hcp
    have hl' : ((xs.length : Nat) : Int) = (P.n : Int) := by omega
    rw [hl] at hcp hs1
    rw [hl]
    have hsl := run_sliceAt_veca (w.alloc (.cells (vec []).toArray 82)) br 1
    have hsl2 := run_sliceAt_veca (w.alloc (.cells (vec []).toArray 82)) w.heap.size 0
    have hnl : xs.length ≤ (ord12 P).length := by simp [ord12]; omega
    have hno := normal_ord12 P xs 0 (by omega)
    have HS1 := Lib.hid hs1
    have HO' := Lib.hid HO
    clear HO hs1
    by_cases hn : normalB P.orders xs 0 = true
    · have he : takeErr P xs = 0 := by unfold takeErr; rw [if_pos hl, if_pos hn]
      have hve : takeVec P xs = xs := by unfold takeVec; rw [if_pos he]
      rw [hn] at hno
      rw [he, hve]
      go_enter Try.func69, Try.ntmps69
      go_wp2_with (first
        | (go_at_call 54; refine (valid_live _ bg br hge).mono ?_; rintro e w' ⟨rfl, rfl⟩)
        | (go_at_call 57; refine (normal_any _ _ _ (ord12 P) xs 0 HO'.out HS1.out hnl).mono ?_; rintro e w' ⟨rfl, rfl⟩)
        | (refine wpList_load_mid rfl 82 (.tmp 4) rfl w.heap.size 0 rfl (vec xs) _ (range_new _ _) Try.underlying82 rfl (by rw [length_vec]; exact info82) ?_))
      exact bodyPost_ret (results_cell_tmp rfl _ _ w.heap.size xs (.int .i64 0) rfl rfl (heap_alloc_new w _)) rfl ⟨rfl, (Below.refl _ _).alloc (Nat.le_refl _) _⟩
    · have he : takeErr P xs = 2 := by unfold takeErr; rw [if_pos hl, if_neg hn]
      have hve : takeVec P xs = [] := by unfold takeVec; rw [he]; rfl
      have hn' : normalB P.orders xs 0 = false := by simpa using hn
      rw [hn'] at hno
      rw [he, hve]
      go_enter Try.func69, Try.ntmps69
      go_wp2_with (first
        | (go_at_call 54; refine (valid_live _ bg br hge).mono ?_; rintro e w' ⟨rfl, rfl⟩)
        | (go_at_call 57; refine (normal_any _ _ _ (ord12 P) xs 0 HO'.out HS1.out hnl).mono ?_; rintro e w' ⟨rfl, rfl⟩)
        | (refine wpList_load_mid rfl 82 (.tmp 4) rfl w.heap.size 0 rfl (vec []) _ (range_new _ _) Try.underlying82 rfl (by rw [length_vec]; exact info82) ?_))
      exact bodyPost_ret (results_cell_tmp rfl _ _ w.heap.size [] (.int .i64 2) rfl rfl (heap_alloc_new w _)) rfl ⟨rfl, HB1.out⟩
  · have hl' : ((xs.length : Nat) : Int) ≠ (P.n : Int) := by omega
    have he : takeErr P xs = 3 := by unfold takeErr; rw [if_neg hl]
    have hve : takeVec P xs = [] := by unfold takeVec; rw [he]; rfl
    rw [he, hve]
    go_enter Try.func69, Try.ntmps69
    go_wp2_with (first
      | (go_at_call 54; refine (valid_live _ bg br hge).mono ?_; rintro e w' ⟨rfl, rfl⟩)
      | (refine wpList_load_mid rfl 82 (.tmp 4) rfl w.heap.size 0 rfl (vec []) _ (range_new _ _) Try.underlying82 rfl (by rw [length_vec]; exact info82) ?_))
    exact bodyPost_ret (results_cell_tmp rfl _ _ w.heap.size [] (.int .i64 3) rfl rfl (heap_alloc_new w _)) rfl ⟨rfl, HB1.out⟩
end Go.Proofs
