/- Lists of pairs in memory; smith.power, and the test of Join's pairs; slices.ContainsFunc at pairs, by Join's test; slices.SortFunc at pairs, by smith.ascending; Join, plainly: what it comes to, place by place; Ranges over functions: the laws (out of chapter 21's texts); The iterator of prime.factors. -/
import Derived.Test.YthfachbkcmifbaaGreatGrCS3
import Derived.Maps.AppendAt
import Derived.Test.YthfachbkcmifbaaGreatGrCS16
import Derived.Shelf.SlSortCmp.WholeK
import Derived.Shelf.Lay
import Derived.Ground.SlsfProg
import Derived.Deep.RegionHeld3
import Derived.Test.YthfachbkcmifbaaGreatGrCS1
import Derived.RangeFuncNested
import Derived.RangeFuncCalls
import Derived.OwnWalkIn
import Derived.TacticsInMore
import Derived.LoopNIn
import Derived.LoopIn
import Derived.RangeFuncFrom
import Derived.RangeFuncLeaves
namespace Go.Proofs
open Go.RowKit Go.Shelf Go.Proofs.Sm
abbrev Pr := Int × Int
def pcell (p : Pr) : List Value := [.int .i64 p.1, .int .i64 p.2]
def pcells (ps : List Pr) : List Value := ps.flatMap pcell
theorem pcells_length (ps : List Pr) : (pcells ps).length = ps.length * 2 := by
  induction ps with
  | nil => rfl
  | cons p ps ih =>
    have : pcells (p :: ps) = pcell p ++ pcells ps := rfl
    rw [this, List.length_append, ih]
    simp [pcell]; omega
theorem pcells_app (ps qs : List Pr) : pcells (ps ++ qs) = pcells ps ++ pcells qs := by simp [pcells]
theorem pcells_get : ∀ (ps : List Pr) (j : Nat), j < ps.length → (pcells ps)[j * 2]? = some (.int .i64 (ps.getD j (0, 0)).1) ∧ (pcells ps)[j * 2 + 1]? = some (.int .i64 (ps.getD j (0, 0)).2)
  | [], j, h => absurd h (by simp)
  | p :: ps, 0, _ => ⟨rfl, rfl⟩
  | p :: ps, j + 1, h => by
    have ih := pcells_get ps j (by simpa using h)
    have : pcells (p :: ps) = pcell p ++ pcells ps := rfl
    rw [this, show (j + 1) * 2 = j * 2 + 2 by omega, show j * 2 + 2 + 1 = (j * 2 + 1) + 2 by omega]
    constructor
    · rw [List.getElem?_append_right (by simp [pcell])]
      simpa [pcell] using ih.1
    · rw [List.getElem?_append_right (by simp [pcell])]
      simpa [pcell] using ih.2
theorem pcells_one {ps : List Pr} : ∀ u ∈ pcells ps, u.oneCell' = true := fun u hu => by
  obtain ⟨p, -, hp⟩ := List.mem_flatMap.1 hu
  simp only [pcell, List.mem_cons, List.not_mem_nil, or_false] at hp
  rcases hp with rfl | rfl <;> rfl
def PFits (ps : List Pr) : Prop := ∀ p ∈ ps, In64 p.1 ∧ In64 p.2
abbrev OwnP (base : Nat) (w : World) (v : Value) (ps : List Pr) : Prop := w.ownsRow base 38 2 v ps.length (pcells ps)
/-- a list of pairs that may be read -/
def PrsAt (w : World) (v : Value) (ps : List Pr) : Prop := ∃ A cap, v = .slice A ps.length cap ∧ ps.length ≤ cap ∧ cap ≤ 9223372036854775807 ∧ (0 < ps.length → ∃ b off, A = some ⟨b, off, none⟩ ∧ ∀ j u, (pcells ps)[j]? = some u → w.cell? ⟨b, off + j, none⟩ = some u)
section
variable {w w' : World} {v : Value} {ps qs : List Pr} {base : Nat}
theorem PrsAt.at_ (h : PrsAt w v ps) : ∃ A cap, v = .slice A ps.length cap ∧ ps.length ≤ cap ∧ cap ≤ 9223372036854775807 ∧ (0 < ps.length → ∃ b off, A = some ⟨b, off, none⟩ ∧ ∀ k, k < ps.length → w.cell? ⟨b, off + k * 2, none⟩ = some (.int .i64 (ps.getD k (0, 0)).1) ∧ w.cell? ⟨b, off + k * 2 + 1, none⟩ = some (.int .i64 (ps.getD k (0, 0)).2)) := by
  obtain ⟨A, cap, h1, h2, h3, h4⟩ := h
  refine ⟨A, cap, h1, h2, h3, fun h0 => ?_⟩
  obtain ⟨b, off, e, hc⟩ := h4 h0
  refine ⟨b, off, e, fun k hk => ?_⟩
  obtain ⟨g1, g2⟩ := pcells_get ps k hk
  exact ⟨hc _ _ g1, by rw [Nat.add_assoc]; exact hc _ _ g2⟩
theorem PrsAt.keep (h : PrsAt w v ps) (hk : ∀ p u, w.cell? p = some u → w'.cell? p = some u) : PrsAt w' v ps := by
  obtain ⟨A, cap, h1, h2, h3, h4⟩ := h
  exact ⟨A, cap, h1, h2, h3, fun h0 => let ⟨b, off, e, hc⟩ := h4 h0; ⟨b, off, e, fun j u hu => hk _ _ (hc j u hu)⟩⟩
theorem PrsAt.below (h : PrsAt w v ps) (hb : Below w.heap.size w w') : PrsAt w' v ps := by
  obtain ⟨A, cap, h1, h2, h3, h4⟩ := h
  exact ⟨A, cap, h1, h2, h3, fun h0 => let ⟨b, off, e, hc⟩ := h4 h0; ⟨b, off, e, fun j u hu => (hb.cell (p := ⟨b, off + j, none⟩) (World.block_lt_of_cell? w _ (hc j u hu))).trans (hc j u hu)⟩⟩
theorem prsAt_nil (w : World) : PrsAt w (.slice none 0 0) [] := ⟨none, 0, rfl, Nat.le_refl _, by omega, fun h => absurd h (by simp)⟩
theorem OwnP.nil (base : Nat) (w : World) : OwnP base w (.slice none 0 0) [] := World.ownsRow_nil _ _ _ _
theorem OwnP.form (h : OwnP base w v ps) : ∃ A c, v = .slice A ps.length c := by
  rcases h.2 with ⟨e, h0⟩ | ⟨g, cap, cur, rfl, -⟩
  · exact ⟨none, 0, by rw [e, h0]⟩
  · exact ⟨_, _, rfl⟩
theorem OwnP.prs (h : OwnP base w v ps) : PrsAt w v ps := by
  rcases h.2 with ⟨e, h0⟩ | ⟨g, cap, cur, rfl, -, hC, h1, hm, hs, ht⟩
  · rw [List.length_eq_zero_iff.1 h0, e]
    exact prsAt_nil w
  · refine ⟨_, cap, rfl, h1, by simpa [maxLen] using hm, fun _ => ⟨g, 0, rfl, fun j u hu => ?_⟩⟩
    rw [Nat.zero_add, cell_of_row _ _ _ _ _ _ hC]
    have h2 : (cur.toList.take (ps.length * 2))[j]? = (pcells ps)[j]? := by rw [ht]
    have hj : j < (pcells ps).length := (List.getElem?_eq_some_iff.1 hu).1
    rw [pcells_length] at hj
    rw [List.getElem?_take, if_pos hj, hu] at h2
    simpa using h2
theorem OwnP.block (h : OwnP base w v ps) : ∀ r, v.ownBlock = some r → base ≤ r ∧ ∃ C, w.heap[r]? = some (.cells C 38 (0, 0)) := fun r hr => by
  rcases h.2 with ⟨rfl, -⟩ | ⟨g, cap, cur, rfl, hb, hg, -⟩
  · cases hr
  · have : g = r := Option.some.inj hr
    subst this
    exact ⟨hb, cur, hg⟩
theorem info56p : ∃ i, Tryz.prog.info? 38 = some i ∧ i.zero = some (.agg #[.int .i64 0, .int .i64 0]) ∧ i.size = 2 ∧ i.bytes = 16 := by
  have h : (Tryz.prog.info? 38).map (fun i => (i.zero, i.size, i.bytes)) = some (some (.agg #[.int .i64 0, .int .i64 0]), 2, 16) := by kernel_rfl
  cases hq : Tryz.prog.info? 38 with
  | none => simp [hq] at h
  | some i => simp [hq] at h; exact ⟨i, rfl, h⟩
theorem append_nil56 (w : World) (base : Nat) (c : Nat) (v : Value) (n : Nat) (xs : List Value) (hown : w.ownsRow base 38 2 v n xs) : (Builtin.append_ #[26, 26] 26 #[v, .slice none 0 c]).run Tryz.prog w = .ok v w := by
  obtain ⟨i, hi, -, hs, -⟩ := info56p
  have ht : Tryz.prog.underlying 26 = some (.slice 38) := Tryz.underlying26
  rcases hown.2 with ⟨rfl, rfl⟩ | ⟨g, cap, cur, rfl, _, _, hnc, _⟩
  · simp [Builtin.append_, run_underlying ht, sizeOf, typeInfo, hi, Builtin.lenOf, Builtin.firstCells]
  · simp [Builtin.append_, run_underlying ht, sizeOf, typeInfo, hi, Builtin.lenOf, Builtin.firstCells, hnc, storeCells]
theorem owns_form2 {e size n : Nat} {xs : List Value} (h : w.ownsRow base e size v n xs) : ∃ A c, v = .slice A n c := by
  rcases h.2 with ⟨rfl, rfl⟩ | ⟨g, cap, cur, rfl, -⟩
  · exact ⟨none, 0, rfl⟩
  · exact ⟨_, _, rfl⟩
/-- append(v, u...) -/
theorem run_append_prs (u : Value) (h : OwnP base w v ps) (hu : PrsAt w u qs) (hx : ps.length ≤ 1000000) (hy : qs.length ≤ 1000000) (hb : base ≤ w.heap.size) :
    ∃ A' c' w', (Builtin.append_ #[26, 26] 26 #[v, u]).run Tryz.prog w = .ok (.slice A' (ps ++ qs).length c') w' ∧ OwnP base w' (.slice A' (ps ++ qs).length c') (ps ++ qs) ∧ w.grownBy w' v.ownBlock ∧
      ((Value.slice A' (ps ++ qs).length c').ownBlock = v.ownBlock ∨ ∃ r, (Value.slice A' (ps ++ qs).length c').ownBlock = some r ∧ w.heap.size ≤ r) := by
  obtain ⟨i, hi, hz, hs, hby⟩ := info56p
  have hl : (ps ++ qs).length = ps.length + qs.length := List.length_append
  obtain ⟨A, c, rfl, hc1, hc2, hc⟩ := hu
  cases A with
  | none =>
    have h0 : qs = [] := by
      rcases Nat.eq_zero_or_pos qs.length with h0 | h0
      · exact List.length_eq_zero_iff.1 h0
      · obtain ⟨b, off, hx, -⟩ := hc h0
        cases hx
    subst h0
    obtain ⟨A', c', e⟩ := OwnP.form h
    subst e
    rw [List.append_nil]
    exact ⟨A', c', w, append_nil56 w base c _ _ _ h, h, World.grownBy.refl w _, .inl rfl⟩
  | some a =>
    have hcells : ∀ j u, (pcells qs)[j]? = some u → w.cell? (a.add j) = some u := by
      intro j u hju
      have hj : j < (pcells qs).length := (List.getElem?_eq_some_iff.1 hju).1
      rw [pcells_length] at hj
      obtain ⟨b, off, e, hcc⟩ := hc (by omega)
      cases e
      rw [Addr.add_lit, hcc j u hju]
    obtain ⟨v', w', hr, hown, hg, -, hw⟩ := run_append_own_at (P := Tryz.prog) w base 26 26 38 i (.agg #[.int .i64 0, .int .i64 0]) 2 16 Tryz.underlying26 hi hz hs hby rfl (by omega) v ps.length (pcells ps) h a qs.length c (pcells qs) (pcells_length qs) hcells pcells_one (by unfold maxLen; omega) (by omega) hb
    obtain ⟨A', c', rfl⟩ := owns_form2 hown
    refine ⟨A', c', w', by rw [hr, hl], by unfold OwnP; rw [hl, pcells_app]; exact hown, hg, by rw [hl]; exact hw.imp id fun hh => ⟨_, hh, Nat.le_refl _⟩⟩
/-- append(v, p) -/
theorem push_pr (h : OwnP base w v ps) (p : Pr) (hx : ps.length ≤ 1000000) (hb : base ≤ w.heap.size) :
    ∃ A' c' w', (Builtin.append_ #[26, 26] 26 #[v, .slice (some ⟨w.heap.size, 0, none⟩) 1 1]).run Tryz.prog (w.alloc (.cells #[.int .i64 p.1, .int .i64 p.2] 38)) = .ok (.slice A' (ps.length + 1) c') w' ∧ OwnP base w' (.slice A' (ps.length + 1) c') (ps ++ [p]) ∧
      w.grownBy w' v.ownBlock ∧ ((Value.slice A' (ps.length + 1) c').ownBlock = v.ownBlock ∨ ∃ r, (Value.slice A' (ps.length + 1) c').ownBlock = some r ∧ w.heap.size ≤ r) := by
  have hal : Below w.heap.size w (w.alloc (.cells #[.int .i64 p.1, .int .i64 p.2] 38)) := (Below.refl _ _).alloc (Nat.le_refl _) _
  have hnew : PrsAt (w.alloc (.cells #[.int .i64 p.1, .int .i64 p.2] 38)) (.slice (some ⟨w.heap.size, 0, none⟩) 1 1) [p] := ⟨_, 1, rfl, Nat.le_refl _, by omega, fun _ => ⟨_, 0, rfl, fun j u hu => by
    rw [Nat.zero_add, cell_of_row _ _ _ _ _ _ (heap_alloc_new w _)]
    simpa [pcells, pcell] using hu⟩⟩
  obtain ⟨A', c', w', h1, h2, h3, h4⟩ := run_append_prs (w := w.alloc (.cells #[.int .i64 p.1, .int .i64 p.2] 38)) (.slice (some ⟨w.heap.size, 0, none⟩) 1 1) (owns_below h hal) hnew hx (by simp) (by have := hal.size; omega)
  have hl : (ps ++ [p]).length = ps.length + 1 := by simp
  rw [hl] at h1 h2 h4
  have hgrow : w.grownBy w' v.ownBlock := ⟨h3.os, h3.tape, h3.output, Nat.le_trans hal.size h3.size, fun k hk hne => (h3.block k (Nat.lt_of_lt_of_le hk hal.size) hne).trans (hal.block k hk)⟩
  exact ⟨A', c', w', h1, h2, hgrow, h4.imp id fun ⟨r, h5, h6⟩ => ⟨r, h5, Nat.le_trans hal.size h6⟩⟩
end
end Go.Proofs
namespace Go.Proofs
open Go.RowKit Go.Shelf Go.Proofs.Sm
def powE (p n : Nat) : Nat := if p ^ n ≤ 1000000000 then p ^ n else 0
set_option maxRecDepth 100000 in
theorem power53_any (w : World) (p n : Nat) (hp1 : 1 ≤ p) (hp2 : p ≤ 1000000) (hn : n ≤ 9223372036854775807) : Calls Tryz.prog 31 #[.int .i64 (p : Int), .int .i64 (n : Int)] w fun e w' => e = .returned (.int .i64 (powE p n : Int)) ∧ ∃ q, w' = w.drewN q := by
  obtain ⟨R, hR⟩ : ∃ R, R = powE p n := ⟨_, rfl⟩
  rw [← hR]
  have HR := Lib.hid hR
  clear hR
  go_enter Tryz.func31, Tryz.ntmps31
  go_wp2_with fail
  go_loopw [1, 5] (fun zn zo wr => ∃ j m o : Nat, m + j = n ∧ zn = .int .i64 m ∧ zo = .int .i64 o ∧ Hid (o = p ^ j) ∧ o ≤ 1000000000000000 ∧ ∃ q, wr = w.drewN q) (fun zn _ _ => (intOf zn).toNat)
  case atStart => exact ⟨0, n, 1, by omega, rfl, rfl, Lib.hid rfl, by omega, 0, rfl⟩
  case round =>
    obtain ⟨j, m, o, hm, rfl, rfl, HO, hob, q, rfl⟩ := hrel
    have ho0 : (0 : Int) ≤ (o : Int) := Int.natCast_nonneg _
    have hobi : (o : Int) ≤ 1000000000000000 := by omega
    have hmi : (m : Int) ≤ 9223372036854775807 := by omega
    by_cases hm0 : 0 < m
    · have hmp : (0 : Int) < (m : Int) := by omega
      by_cases ho : o ≤ 1000000000
      · have hoi : (o : Int) ≤ 1000000000 := by omega
        have hmul : o * p ≤ 1000000000 * 1000000 := Nat.mul_le_mul ho hp2
        have hcast : (o : Int) * (p : Int) = ((o * p : Nat) : Int) := by rw [Int.natCast_mul]
        have hwz : IntKind.i64.wrap ((o : Int) * (p : Int)) = ((o * p : Nat) : Int) := by rw [hcast]; exact IntWalk.i64_in _ (by omega)
        have HN : Hid (o * p = p ^ (j + 1)) := Lib.hid (by rw [HO.out, Nat.pow_succ])
        clear hcast
        generalize o * p = o2 at *
        go_wp2_with fail
        go_roundw
        case rel => exact ⟨j + 1, m - 1, o2, by omega, by go_num, rfl, HN, by omega, _, rfl⟩
        case measure => simp [intOf]; omega
      · have hoi : ¬ (o : Int) ≤ 1000000000 := by omega
        have HE : Hid ((0 : Int) = (R : Int)) := Lib.hid (by
          have h1 : p ^ j ≤ p ^ n := Nat.pow_le_pow_right hp1 (by omega)
          have h2 := HO.out
          rw [HR.out]
          unfold powE
          rw [if_neg (by omega)]
          rfl)
        go_wp2_with fail
        go_ret
        exact ⟨ret_int HE.out, _, rfl⟩
    · obtain rfl : m = 0 := by omega
      obtain rfl : j = n := by omega
      clear hm0
      by_cases ho : o ≤ 1000000000
      · have hoi : ¬ (1000000000 : Int) < (o : Int) := by omega
        have HE : Hid ((o : Int) = (R : Int)) := Lib.hid (by
          rw [HR.out]
          unfold powE
          rw [if_pos (by rw [← HO.out]; exact ho), ← HO.out])
        go_wp2_with fail
        go_ret
        exact ⟨ret_int HE.out, _, rfl⟩
      · have hoi : (1000000000 : Int) < (o : Int) := by omega
        have HE : Hid ((0 : Int) = (R : Int)) := Lib.hid (by
          rw [HR.out]
          unfold powE
          rw [if_neg (by rw [← HO.out]; exact ho)]
          rfl)
        go_wp2_with fail
        go_ret
        exact ⟨ret_int HE.out, _, rfl⟩
/-- no prime power -/
def badJ (p : Pr) : Bool := !(isE p.1) || decide (p.2 < 1)
set_option maxRecDepth 100000 in
theorem join49_any (w : World) (p : Pr) (h1 : In64 p.1) (h2 : In64 p.2) : Calls Tryz.prog 27 #[.agg #[.int .i64 p.1, .int .i64 p.2]] w fun e w' => e = .returned (.bool (badJ p)) ∧ RowKit.Below w.heap.size w w' := by
  obtain ⟨x, k⟩ := p
  have HI := Lib.hid fun W => is50_any W x h1
  have HB : Hid (badJ (x, k) = (!(isE x) || decide (k < 1))) := Lib.hid rfl
  clear h1 h2
  generalize badJ (x, k) = R at *
  generalize isE x = b at *
  simp only
  cases b with
  | false =>
    have HE : Hid (R = true) := Lib.hid (by rw [HB.out]; simp)
    go_enter Tryz.func27, Tryz.ntmps27
    go_wp2_with (go_at_call 28; (refine (HI.out _).mono ?_); rintro e w' ⟨rfl, q, rfl⟩)
    go_ret
    exact ⟨ret_bool HE.out.symm, by first | exact below_drewN ((RowKit.Below.refl _ _).alloc (Nat.le_refl _) _) _ | exact (RowKit.Below.refl _ _).alloc (Nat.le_refl _) _⟩
  | true =>
    have HE : Hid (R = decide (k < 1)) := Lib.hid (by rw [HB.out]; simp)
    go_enter Tryz.func27, Tryz.ntmps27
    go_wp2_with (go_at_call 28; (refine (HI.out _).mono ?_); rintro e w' ⟨rfl, q, rfl⟩)
    go_ret
    exact ⟨ret_bool HE.out.symm, by first | exact below_drewN ((RowKit.Below.refl _ _).alloc (Nat.le_refl _) _) _ | exact (RowKit.Below.refl _ _).alloc (Nat.le_refl _) _⟩
end Go.Proofs
namespace Go.Proofs
open Go.RowKit Go.Shelf Go.Proofs.Sm
theorem getD_memP {ps : List Pr} {k : Nat} (h : k < ps.length) : ps.getD k (0, 0) ∈ ps := by
  rw [List.getD_eq_getElem?_getD, List.getElem?_eq_getElem h]; exact List.getElem_mem h
theorem any_hit {ps : List Pr} {k : Nat} (h : k < ps.length) (hb : badJ (ps.getD k (0, 0)) = true) : ps.any badJ = true := List.any_eq_true.2 ⟨_, getD_memP h, hb⟩
theorem any_none {ps : List Pr} (h : ∀ j, j < ps.length → badJ (ps.getD j (0, 0)) = false) : ps.any badJ = false := by
  rw [List.any_eq_false]
  intro p hp
  obtain ⟨j, hj, rfl⟩ := List.getElem_of_mem hp
  have := h j hj
  rw [List.getD_eq_getElem?_getD, List.getElem?_eq_getElem hj] at this
  simpa using this
set_option maxRecDepth 100000 in
theorem index68_any (w : World) (v : Value) (ps : List Pr) (h : PrsAt w v ps) (hf : PFits ps) : Calls Tryz.prog 50 #[v, .func (.func 27) #[] #[]] w fun e w' => (∃ r : Int, e = .returned (.int .i64 r) ∧ decide (0 ≤ r) = ps.any badJ) ∧ Below w.heap.size w w' := by
  obtain ⟨A, c, rfl, hc1, hc2, hc⟩ := h.at_
  have HC := Lib.hid hc
  have HF := Lib.hid hf
  clear h hc hf
  obtain ⟨R, hR⟩ : ∃ R, R = ps.any badJ := ⟨_, rfl⟩
  rw [← hR]
  have HR := Lib.hid hR
  clear hR
  go_enter Tryz.func50, Tryz.ntmps50
  go_wp2_with fail
  go_loopw [8] (fun i wr => ∃ k : Nat, k ≤ ps.length ∧ i = .int .i64 k ∧ Hid (Below w.heap.size w wr ∧ ∀ j, j < k → badJ (ps.getD j (0, 0)) = false)) (fun i _ => ps.length - (intOf i).toNat)
  case atStart => exact ⟨0, Nat.zero_le _, rfl, Lib.hid ⟨Below.refl _ _, fun j hj => absurd hj (by omega)⟩⟩
  case round =>
    obtain ⟨k, hk, rfl, HI⟩ := hrel
    have hk0 : (0 : Int) ≤ (k : Int) := Int.natCast_nonneg _
    by_cases hlt : k < ps.length
    · have hlt' : (k : Int) < (ps.length : Int) := by omega
      obtain ⟨b, o, rfl, hcc⟩ := HC.out (by omega)
      obtain ⟨x1, x2⟩ := hcc k hlt
      have y1 := (HI.out.1.cell (p := ⟨b, o + k * 2, none⟩) (World.block_lt_of_cell? w _ x1)).trans x1
      have y2 := (HI.out.1.cell (p := ⟨b, o + k * 2 + 1, none⟩) (World.block_lt_of_cell? w _ x2)).trans x2
      obtain ⟨f1, f2⟩ := HF.out _ (getD_memP hlt)
      have HH := Lib.hid fun h => any_hit hlt h
      have HS := Lib.hid fun h => all_succ HI.out.2 h
      clear hcc x1 x2
      generalize ps.getD k (0, 0) = p at *
      obtain ⟨p1, p2⟩ := p
      simp only at y1 y2
      have HCALL := Lib.hid fun W => join49_any W (p1, p2) f1 f2
      clear f1 f2
      cases hb : badJ (p1, p2) with
      | true =>
        rw [hb] at HCALL
        have HE : Hid (R = true) := Lib.hid (by rw [HR.out]; exact HH.out hb)
        clear hb
        go_wp2_with fail
        refine (HCALL.out _).mono ?_
        rintro e w1 ⟨rfl, hb⟩
        have HB := Lib.hid (HI.out.1.trans (hb.mono HI.out.1.size))
        clear hb
        go_wp2_with fail
        go_ret
        exact ⟨⟨_, rfl, by rw [HE.out]; exact decide_eq_true hk0⟩, HB.out⟩
      | false =>
        rw [hb] at HCALL
        have HB0 := Lib.hid hb
        clear hb
        go_wp2_with fail
        refine (HCALL.out _).mono ?_
        rintro e w1 ⟨rfl, hb⟩
        have HB := Lib.hid (HI.out.1.trans (hb.mono HI.out.1.size))
        clear hb
        go_wp2_with fail
        go_roundw
        case rel => exact ⟨k + 1, by omega, by go_num, Lib.hid ⟨HB.out, HS.out HB0.out⟩⟩
        case measure => simp [intOf]; omega
    · obtain rfl : k = ps.length := by omega
      have HE : Hid (R = false) := Lib.hid (by rw [HR.out]; exact any_none HI.out.2)
      go_wp2_with fail
      go_ret
      exact ⟨⟨_, rfl, by rw [HE.out]; rfl⟩, HI.out.1⟩
theorem contains48_any (w : World) (v : Value) (ps : List Pr) (h : PrsAt w v ps) (hf : PFits ps) : Calls Tryz.prog 26 #[v, .func (.func 27) #[] #[]] w fun e w' => e = .returned (.bool (ps.any badJ)) ∧ Below w.heap.size w w' := by
  have HI := Lib.hid (index68_any w v ps h hf)
  obtain ⟨A, c, rfl, -, -, -⟩ := h
  clear hf
  generalize ps.length = l at *
  generalize ps.any badJ = R at *
  go_enter Tryz.func26, Tryz.ntmps26
  go_wp2_with (go_at_call 50; (refine HI.out.mono ?_); rintro e w1 ⟨⟨r, rfl, hr⟩, hb⟩; have HB := Lib.hid hb; have HE := Lib.hid hr; clear hb hr)
  go_ret
  exact ⟨ret_bool HE.out, HB.out⟩
end Go.Proofs
namespace Go.Proofs
open Go.Shelf Go.RowKit Go.Lib Go.Sort
shelf_lay_g SlLaysF0.n6 Slsf 6 at Tryz 22 as Tryz.sortP
def cmpI (x y : Int) : Int := if x < y then -1 else if y < x then 1 else 0
def cfP (p q : Pr) : Int := if cmpI p.1 q.1 ≠ 0 then cmpI p.1 q.1 else cmpI p.2 q.2
theorem ltP (p q : Pr) : ltOf cfP p q = decide (p.1 < q.1 ∨ p.1 = q.1 ∧ p.2 < q.2) := by
  unfold ltOf cfP cmpI
  by_cases h1 : p.1 < q.1
  · simp [h1]
  · by_cases h2 : q.1 < p.1
    · have : ¬ p.1 = q.1 := by omega
      simp [h1, h2, this]
    · have : p.1 = q.1 := by omega
      by_cases h3 : p.2 < q.2
      · simp [this, h3]
      · by_cases h4 : q.2 < p.2 <;> simp [this, h3, h4]
theorem swoP : SWO (ltOf cfP) where
  irrefl x := by rw [ltP]; simp
  trans x y z h1 h2 := by rw [ltP] at *; simp at *; omega
  ntrans x y z h1 h2 := by rw [ltP] at *; simp at *; omega
def leP (p q : Pr) : Bool := decide (p.1 < q.1 ∨ p.1 = q.1 ∧ p.2 ≤ q.2)
def sortP (ps : List Pr) : List Pr := ps.mergeSort leP
theorem leP_trans (a b c : Pr) (h1 : leP a b = true) (h2 : leP b c = true) : leP a c = true := by unfold leP at *; simp at *; omega
theorem leP_total (a b : Pr) : (leP a b || leP b a) = true := by unfold leP; simp; omega
theorem leP_anti {a b : Pr} (h1 : leP a b = true) (h2 : leP b a = true) : a = b := by
  unfold leP at *; simp at *
  exact Prod.ext (by omega) (by omega)
theorem sortP_perm (ps : List Pr) : (sortP ps).Perm ps := List.mergeSort_perm _ _
theorem sortP_length (ps : List Pr) : (sortP ps).length = ps.length := (sortP_perm ps).length_eq
theorem sortP_sorted (ps : List Pr) : (sortP ps).Pairwise fun a b => leP a b = true := List.pairwise_mergeSort leP_trans leP_total ps
theorem sortP_unique {ps qs : List Pr} (h : qs.Perm ps) (hs : qs.Pairwise fun a b => leP a b = true) : qs = sortP ps :=
  List.Perm.eq_of_pairwise (fun _ _ _ _ h1 h2 => leP_anti h1 h2) hs (sortP_sorted ps) (h.trans (sortP_perm ps).symm)
def Gr (W W' : World) : Prop := ∃ q os, W' = grow (W.drewN q) os
theorem Gr.refl (W : World) : Gr W W := ⟨0, #[], by simp; rfl⟩
theorem Gr.alloc {W W' : World} (h : Gr W W') (o : Obj) : Gr W (W'.alloc o) := let ⟨q, os, e⟩ := h; ⟨q, os ++ #[o], by rw [e, alloc_eq_grow, grow_grow]⟩
theorem Gr.drew {W W' : World} (h : Gr W W') : Gr W W'.drew := let ⟨q, os, e⟩ := h; ⟨q + 1, os, by rw [e, drew_grow]; rfl⟩
theorem Gr.drewN {W W' : World} (h : Gr W W') (n : Nat) : Gr W (W'.drewN n) := let ⟨q, os, e⟩ := h; ⟨q + n, os, by rw [e, ← World.drewN_drewN]; rfl⟩
theorem isNaN78_any (w : World) (x : Int) : Calls Tryz.prog 57 #[.int .i64 x] w fun e w' => e = .returned (.bool false) ∧ w' = w := by
  have hd : (x != x) = false := by simp
  go_enter Tryz.func57, Tryz.ntmps57
  go_wp2_with fail
  go_ret
  exact ⟨rfl, rfl⟩
theorem compare63_any (w : World) (x y : Int) : Calls Tryz.prog 43 #[.int .i64 x, .int .i64 y] w fun e w' => e = .returned (.int .i64 (cmpI x y)) ∧ w' = w := by
  have HX := Lib.hid fun W => isNaN78_any W x
  have HY := Lib.hid fun W => isNaN78_any W y
  obtain ⟨R, hR⟩ : ∃ R, R = cmpI x y := ⟨_, rfl⟩
  rw [← hR]
  by_cases h1 : x < y
  · have HE : Hid (R = -1) := Lib.hid (by rw [hR]; unfold cmpI; rw [if_pos h1])
    clear hR
    go_enter Tryz.func43, Tryz.ntmps43
    go_wp2_with (first
      | (go_at_call 57; (with_reducible refine (HX.out _).mono ?_); rintro e w' ⟨rfl, rfl⟩)
      | (go_at_call 57; (with_reducible refine (HY.out _).mono ?_); rintro e w' ⟨rfl, rfl⟩))
    go_ret
    exact ⟨ret_int HE.out.symm, rfl⟩
  · by_cases h2 : y < x
    · have HE : Hid (R = 1) := Lib.hid (by rw [hR]; unfold cmpI; rw [if_neg h1, if_pos h2])
      clear hR
      go_enter Tryz.func43, Tryz.ntmps43
      go_wp2_with (first
        | (go_at_call 57; (with_reducible refine (HX.out _).mono ?_); rintro e w' ⟨rfl, rfl⟩)
        | (go_at_call 57; (with_reducible refine (HY.out _).mono ?_); rintro e w' ⟨rfl, rfl⟩))
      go_ret
      exact ⟨ret_int HE.out.symm, rfl⟩
    · have HE : Hid (R = 0) := Lib.hid (by rw [hR]; unfold cmpI; rw [if_neg h1, if_neg h2])
      clear hR
      go_enter Tryz.func43, Tryz.ntmps43
      go_wp2_with (first
        | (go_at_call 57; (with_reducible refine (HX.out _).mono ?_); rintro e w' ⟨rfl, rfl⟩)
        | (go_at_call 57; (with_reducible refine (HY.out _).mono ?_); rintro e w' ⟨rfl, rfl⟩))
      go_ret
      exact ⟨ret_int HE.out.symm, rfl⟩
theorem or67_any (w : World) (v : Value) (a b : Int) (h : IntsAt w v [a, b]) : Calls Tryz.prog 49 #[v] w fun e w' => e = .returned (.int .i64 (if a ≠ 0 then a else b)) ∧ ∃ q, w' = w.drewN q := by
  obtain ⟨A, c, rfl, h1, h2, hc⟩ := h.open_
  obtain ⟨g, o, rfl, hcc⟩ := hc (by simp)
  have ha := hcc 0 (by simp)
  have hb := hcc 1 (by simp)
  simp only [List.getD_cons_zero, List.getD_cons_succ, Nat.add_zero] at ha hb
  clear h hc hcc
  simp only [List.length_cons, List.length_nil, Nat.zero_add] at h1 ⊢
  obtain ⟨R, hR⟩ : ∃ R, R = (if a ≠ 0 then a else b) := ⟨_, rfl⟩
  rw [← hR]
  have HR := Lib.hid hR
  clear hR
  go_enter Tryz.func49, Tryz.ntmps49
  go_wp2_with fail
  go_loopw [8] (fun z wr => ∃ k : Nat, k ≤ 2 ∧ z = .int .i64 k ∧ (1 ≤ k → a = 0) ∧ (2 ≤ k → b = 0) ∧ ∃ q, wr = w.drewN q) (fun z _ => 2 - (intOf z).toNat)
  case atStart => exact ⟨0, by omega, rfl, fun h => absurd h (by omega), fun h => absurd h (by omega), 0, rfl⟩
  case round =>
    obtain ⟨k, hk, rfl, hz1, hz2, q, rfl⟩ := hrel
    obtain rfl | rfl | rfl : k = 0 ∨ k = 1 ∨ k = 2 := by omega
    · clear hz1 hz2
      by_cases h0 : a = 0
      · have hd : (a != 0) = false := by simpa using h0
        have H0 := Lib.hid h0
        clear h0
        go_wp2_with fail
        go_roundw
        case rel => exact ⟨1, by omega, by go_num, fun _ => H0.out, fun h => absurd h (by omega), _, rfl⟩
        case measure => simp [intOf]
      · have hd : (a != 0) = true := by simpa using h0
        have HE : Hid (R = a) := Lib.hid (by rw [HR.out, if_pos h0])
        clear h0
        go_wp2_with fail
        go_ret
        exact ⟨ret_int HE.out.symm, _, rfl⟩
    · have ha0 := hz1 (by omega)
      subst ha0
      clear hz1 hz2
      have HE : Hid (R = b) := Lib.hid (by rw [HR.out]; simp)
      by_cases h0 : b = 0
      · have hd : (b != 0) = false := by simpa using h0
        have H0 := Lib.hid h0
        clear h0
        go_wp2_with fail
        go_roundw
        case rel => exact ⟨2, by omega, by go_num, fun _ => trivial, fun _ => H0.out, _, rfl⟩
        case measure => simp [intOf]
      · have hd : (b != 0) = true := by simpa using h0
        clear h0
        go_wp2_with fail
        go_ret
        exact ⟨ret_int HE.out.symm, _, rfl⟩
    · have HE : Hid (R = 0) := Lib.hid (by rw [HR.out, if_neg (by simpa using hz1 (by omega))]; exact hz2 (by omega))
      clear hz1 hz2
      go_wp2_with fail
      go_ret
      exact ⟨ret_int HE.out.symm, _, rfl⟩
end Go.Proofs
namespace Go.Proofs
open Go.RowKit Go.Shelf Go.Proofs.Sm
def sortD (ps : List Pr) : List Pr := (sortP ps).reverse
/-- the place of the next factor -/
def atE (L : List Pr) (i a : Nat) : Nat := if 0 < i ∧ (L.getD i (0, 0)).1 ≠ (L.getD (i - 1) (0, 0)).1 then 0 else a
def outE (o : List Int) (a : Nat) : List Int := if a = o.length then o ++ [1] else o
def joinS (L : List Pr) (i : Nat) (st : List Int × Nat) : Option (List Int × Nat) :=
  if (outE st.1 (atE L i st.2)).getD (atE L i st.2) 0 * (powE (L.getD i (0, 0)).1.toNat (L.getD i (0, 0)).2.toNat : Int) < 1 ∨ 1000000000 < (outE st.1 (atE L i st.2)).getD (atE L i st.2) 0 * (powE (L.getD i (0, 0)).1.toNat (L.getD i (0, 0)).2.toNat : Int) then none
  else some ((outE st.1 (atE L i st.2)).set (atE L i st.2) ((outE st.1 (atE L i st.2)).getD (atE L i st.2) 0 * (powE (L.getD i (0, 0)).1.toNat (L.getD i (0, 0)).2.toNat : Int)), atE L i st.2 + 1)
def joinTo (L : List Pr) : Nat → Option (List Int × Nat)
  | 0 => some ([], 0)
  | i + 1 => (joinTo L i).bind (joinS L i)
/-- what is true of the list as it grows -/
structure JOk (i : Nat) (st : List Int × Nat) : Prop where
  at_ : st.2 ≤ st.1.length
  len : st.1.length ≤ i
  bd : ∀ z ∈ st.1, 1 ≤ z ∧ z ≤ 1000000000
theorem JOk.zero : JOk 0 ([], 0) := ⟨Nat.le_refl _, Nat.le_refl _, fun z hz => by cases hz⟩
theorem atE_le {L : List Pr} {i : Nat} {st : List Int × Nat} (h : JOk i st) : atE L i st.2 ≤ st.1.length := by
  unfold atE
  split
  · omega
  · exact h.at_
theorem outE_lt {o : List Int} {a : Nat} (h : a ≤ o.length) : a < (outE o a).length := by
  unfold outE
  split
  · simp; omega
  · omega
theorem outE_bd {o : List Int} {a : Nat} (h : ∀ z ∈ o, 1 ≤ z ∧ z ≤ 1000000000) : ∀ z ∈ outE o a, 1 ≤ z ∧ z ≤ 1000000000 := by
  unfold outE
  split
  · intro z hz
    rcases List.mem_append.1 hz with hz | hz
    · exact h z hz
    · rw [List.mem_singleton] at hz
      omega
  · exact h
theorem getD_bd {o : List Int} {a : Nat} (h : ∀ z ∈ o, 1 ≤ z ∧ z ≤ 1000000000) (ha : a < o.length) : 1 ≤ o.getD a 0 ∧ o.getD a 0 ≤ 1000000000 := by
  rw [List.getD_eq_getElem?_getD, List.getElem?_eq_getElem ha]
  exact h _ (List.getElem_mem ha)
theorem powE_le (p n : Nat) : powE p n ≤ 1000000000 := by
  unfold powE
  split
  · assumption
  · omega
theorem joinS_ok {L : List Pr} {i : Nat} {st st' : List Int × Nat} (h : JOk i st) (he : joinS L i st = some st') : JOk (i + 1) st' := by
  unfold joinS at he
  split at he
  · cases he
  · rename_i hn
    cases he
    have ha := atE_le (L := L) h
    have hl := outE_lt ha
    refine ⟨by simp; omega, ?_, fun z hz => ?_⟩
    · rw [List.length_set]
      unfold outE
      split
      · simp; exact h.len
      · have := h.len; omega
    · rcases List.mem_or_eq_of_mem_set hz with hz | hz
      · exact outE_bd h.bd z hz
      · omega
theorem joinTo_ok {L : List Pr} : ∀ {i : Nat} {st : List Int × Nat}, joinTo L i = some st → JOk i st
  | 0, st, h => by cases h; exact JOk.zero
  | i + 1, st, h => by
    unfold joinTo at h
    cases h1 : joinTo L i with
    | none => rw [h1] at h; cases h
    | some s => rw [h1] at h; exact joinS_ok (joinTo_ok h1) h
theorem joinTo_none {L : List Pr} {k : Nat} (h : joinTo L k = none) : ∀ d, joinTo L (k + d) = none
  | 0 => h
  | d + 1 => by
    show (joinTo L (k + d)).bind _ = none
    rw [joinTo_none h d]
    rfl
def joinOf (L : List Pr) (n : Nat) : List Int × Int := match joinTo L n with
  | none => ([], 5)
  | some st => (st.1.reverse, 0)
theorem joinOf_none {L : List Pr} {n : Nat} (h : joinTo L n = none) : joinOf L n = ([], 5) := by unfold joinOf; rw [h]
theorem joinOf_some {L : List Pr} {n : Nat} {st : List Int × Nat} (h : joinTo L n = some st) : joinOf L n = (st.1.reverse, 0) := by unfold joinOf; rw [h]
def joinE (ps : List Pr) : List Int × Int := if 1000 < ps.length then ([], 4) else if ps.any badJ = true then ([], 3) else joinOf (sortD ps) ps.length
end Go.Proofs
namespace Go.Proofs
open Go.RowKit Go.Shelf
theorem wide_fn (f : FuncId) : Fence.wide.fn f := trivial
theorem wide_depth : Fence.wide.depth = none := rfl
/-- what the walk's body leaves alone -/
def Kb (S : Nat → Prop) (A B : World) : Prop := B.os = A.os ∧ B.tape = A.tape ∧ B.output = A.output ∧ A.heap.size ≤ B.heap.size ∧ Ag S A B
theorem cell_of1 {w : World} {b : Nat} {v : Value} {e : TypeId} (h : w.heap[b]? = some (.cells #[v] e (0, 0))) : w.cell? ⟨b, 0, none⟩ = some v ∧ w.frozen? ⟨b, 0, none⟩ = false :=
  ⟨by rw [cell_of_row _ _ _ _ _ _ h]; rfl, by simp [World.frozen?, h]⟩
/-- what a body does to a world: it writes its own box bo and blocks of cells from B on -/
structure Turned (bo B : Nat) (W W' : World) : Prop where
  os : W'.os = W.os
  tape : W'.tape = W.tape
  output : W'.output = W.output
  size : W.heap.size ≤ W'.heap.size
  block : ∀ k, k < W.heap.size → k ≠ bo → (k < B ∨ ∃ o : Obj, W.heap[k]? = some o ∧ o.isCells = false) → W'.heap[k]? = W.heap[k]?
theorem Turned.refl (bo B : Nat) (W : World) : Turned bo B W W := ⟨rfl, rfl, rfl, Nat.le_refl _, fun _ _ _ _ => rfl⟩
theorem Turned.trans {bo B : Nat} {W X Y : World} (h : Turned bo B W X) (k : Turned bo B X Y) : Turned bo B W Y :=
  ⟨k.os.trans h.os, k.tape.trans h.tape, k.output.trans h.output, Nat.le_trans h.size k.size, fun i hi hb hc =>
    (k.block i (Nat.lt_of_lt_of_le hi h.size) hb (hc.imp id fun ⟨o, ho, hn⟩ => ⟨o, (h.block i hi hb hc).trans ho, hn⟩)).trans (h.block i hi hb hc)⟩
theorem Turned.of_below {bo B : Nat} {W X : World} (h : Below W.heap.size W X) : Turned bo B W X := ⟨h.os, h.tape, h.output, h.size, fun i hi _ _ => h.block i hi⟩
theorem Turned.set {bo B : Nat} {W : World} (v : Value) : Turned bo B W (W.setCell ⟨bo, 0, none⟩ v) := ⟨rfl, rfl, rfl, by simp [World.setCell], fun i _ hb _ => Below.heap_setCell W ⟨bo, 0, none⟩ v i hb⟩
theorem Turned.grown {bo B : Nat} {W X : World} {row : Option Nat} (h : W.grownBy X row) (hr : ∀ r, row = some r → B ≤ r ∧ ∃ o : Obj, W.heap[r]? = some o ∧ o.isCells = true) : Turned bo B W X :=
  ⟨h.os, h.tape, h.output, h.size, fun i hi _ hc => h.block i hi fun e => by
    obtain ⟨h1, o, h2, h3⟩ := hr i e.symm
    rcases hc with hc | ⟨o', h4, h5⟩
    · omega
    · rw [h2] at h4; cases h4; rw [h3] at h5; cases h5⟩
theorem Turned.kb {bo B : Nat} {W X : World} (h : Turned bo B W X) {S : Nat → Prop} (hS : ∀ k, S k → k < B ∧ k ≠ bo) (hB : B ≤ W.heap.size) : Kb S W X :=
  ⟨h.os, h.tape, h.output, h.size, fun k hk => h.block k (Nat.lt_of_lt_of_le (hS k hk).1 hB) (hS k hk).2 (.inl (hS k hk).1)⟩
theorem Kb.trans {S : Nat → Prop} {A B C : World} (h : Kb S A B) (k : Kb S B C) : Kb S A C :=
  ⟨k.1.trans h.1, k.2.1.trans h.2.1, k.2.2.1.trans h.2.2.1, Nat.le_trans h.2.2.2.1 k.2.2.2.1, h.2.2.2.2.trans k.2.2.2.2⟩
theorem Kb.put {S : Nat → Prop} {W : World} {l : Nat} {o : Obj} (hS : ∀ k, S k → k ≠ l) : Kb S W (W.putObj l o) :=
  ⟨rfl, rfl, rfl, by simp, fun k hk => World.putObj_heap_other (hS k hk)⟩
/-- the post of a body that goes on -/
def goesOn (bo B : Nat) (I : World → Prop) (W : World) : Exit → Act → World → Prop
  | .normal, _, W' => Turned bo B W W' ∧ I W'
  | _, _, _ => False
theorem wpIn_rangeWalk {n : Nat} {g : Operand} {ps : Array Tmp} {assign body : Code} {Q : Exit → Act → World → Prop} {a : Act} {w : World}
    {gf : Nat} {lb : Array Value} (hg : a.eval g = .func (.func gf) #[] lb) (eg : ∀ args w, (callFunc gf args).run Tryz.prog w = .ok (.enter gf args) w)
    {encs : Nat → Array Value} {S : Nat → Prop} (N bo br : Nat) (hbo : bo < w.heap.size) (hbr : br < w.heap.size) (hS : ∀ k, S k → k < w.heap.size ∧ k ≠ bo) (hps : ∀ k, (encs k).size = ps.size)
    (hseq : ∀ (l : Nat) (J : Nat → World → Prop) (W : World), Below w.heap.size w W →
      (∀ k A B, J k A → Below A.heap.size A B → J k B) → (∀ k A v, J k A → (A.cell? ⟨br, 0, none⟩).isSome = true → J k (A.setCell ⟨br, 0, none⟩ v)) →
      (∀ k W1, J k W1 → k < N → YieldAt Fence.wide (n - 1 - 1) Tryz.prog l (encs k) W1 fun e W' => e = .returned (.bool true) ∧ J (k + 1) W' ∧ Kb S W1 W') →
      J 0 W → CallsIn Fence.wide (n - 1) Tryz.prog gf (#[.func (.yield l) #[] #[]] ++ lb) W fun e W' => (∃ v, e = .returned v) ∧ J N W')
    (I : Nat → World → Prop) (hIa : ∀ k A B, I k A → Below A.heap.size A B → I k B) (hIs : ∀ k A v, I k A → (A.cell? ⟨br, 0, none⟩).isSome = true → I k (A.setCell ⟨br, 0, none⟩ v))
    (hIp : ∀ k A l (o o' : Obj), I k A → w.heap.size ≤ l → A.heap[l]? = some o → o.isCells = false → I k (A.putObj l o'))
    (h0 : I 0 w) (a₁ : Nat → Act)
    (hassign : ∀ (l : Nat) (k : Nat) (W : World) (K : Act → World → Prop), K (a₁ k) W →
      assign.wpIn (Fence.wide.inRound l) (n - 1 - 1) Tryz.prog (Exit.then K (fun _ _ _ => False)) { tmps := (ps.zip (encs k)).foldl (fun t (p, v) => t.setIfInBounds p v) a.tmps, defers := [] } W)
    (hbody : ∀ (l : Nat) (k : Nat) (W : World), I k W → k < N → w.heap.size ≤ W.heap.size → body.wpIn (Fence.wide.inRound l) (n - 1 - 1) Tryz.prog (goesOn bo w.heap.size (I (k + 1)) W) (a₁ k) W)
    (hdone : ∀ (D : Nat) (W : World), w.heap.size ≤ D → I N W → W.heap[D]? = some (.deferred (some [])) → Q .normal { a with defers := { target := .collected D, args := #[] } :: a.defers } W) :
    (Code.rangeFunc g ps assign body).wpIn Fence.wide n Tryz.prog Q a w := by
  refine wpIn_rangeFunc ?_
  intro fn hfn
  obtain ⟨rec, hrec⟩ : ∃ rec : LoopState → Option Code → Loop, rec = fun st pe => { state := st, pending := pe, fn, tmps := a.tmps, params := ps, assign, body, defers := w.heap.size } := ⟨_, rfl⟩
  obtain ⟨W1, hW1⟩ : ∃ W1, (w.alloc (.deferred (some []))).alloc (.loop (rec .ready none)) = W1 := ⟨_, rfl⟩
  have hL1 : W1.heap[w.heap.size + 1]? = some (.loop (rec .ready none)) := by
    rw [← hW1]; have := World.alloc_heap_new (w.alloc (.deferred (some []))) (.loop (rec .ready none)); rwa [World.size_alloc] at this
  have hK1 : W1.heap[w.heap.size]? = some (.deferred (some [])) := by
    rw [← hW1]; exact (Below.heap_alloc _ _ _ (by simp)).trans (World.alloc_heap_new w _)
  have hb1 : Below w.heap.size w W1 := by
    rw [← hW1]; exact ((Below.refl _ w).alloc (Nat.le_refl _) _).alloc (by simp) _
  have hI1 : I 0 W1 := hIa _ _ _ h0 hb1
  refine ⟨w.heap.size + 1, [{ target := .collected w.heap.size, args := #[] }], W1, { target := .fn (.func gf) lb, args := #[.func (.yield (w.heap.size + 1)) #[] #[]] }, W1, gf,
    #[.func (.yield (w.heap.size + 1)) #[] #[]] ++ lb, W1, ?_, ?_, ?_, ?_, fun h => (by simp [wide_depth] at h), ?_⟩
  · rw [← hW1, hrec]; exact run_enterLoop_outer _ _ _ _ _
  · simp only [resolve, hg]
    simp [go_sem]
  · intro f' _; trivial
  · simp [invoke, go_sem, eg]
  · refine (hseq (w.heap.size + 1)
      (fun k W => I k W ∧ W.heap[w.heap.size + 1]? = some (.loop (rec .ready none)) ∧ W.heap[w.heap.size]? = some (.deferred (some [])))
      W1 hb1
      (fun k A B hs hb => ⟨hIa k A B hs.1 hb, (hb.block _ (Array.getElem?_eq_some_iff.1 hs.2.1).1).trans hs.2.1, (hb.block _ (Array.getElem?_eq_some_iff.1 hs.2.2).1).trans hs.2.2⟩)
      (fun k A v hs hc => ⟨hIs k A v hs.1 hc, (Below.heap_setCell A ⟨br, 0, none⟩ v _ (by simp; omega)).trans hs.2.1, (Below.heap_setCell A ⟨br, 0, none⟩ v _ (by simp; omega)).trans hs.2.2⟩)
      ?_ ⟨hI1, hL1, hK1⟩).mono ?_
    · -- ONE ROUND
      rintro k W ⟨hi, hl, hk⟩ hlen
      have hlt : w.heap.size + 1 < W.heap.size := (Array.getElem?_eq_some_iff.1 hl).1
      have hy := run_yield (P := Tryz.prog) (args := encs k) hl (by rw [hrec]; exact hps k)
      rw [hrec] at hy
      refine ⟨fn, _, assign, body, hy, roundIn_of_wpIn hfn (hassign _ k W _ ⟨_, run_beginRound hl (by rw [hrec]), ?_⟩)⟩
      obtain ⟨Wb, hWb⟩ : ∃ Wb, Wb = W.putObj (w.heap.size + 1) (.loop { rec .ready none with state := .busy }) := ⟨_, rfl⟩
      have hl2 : Wb.heap[w.heap.size + 1]? = some (.loop { rec .ready none with state := .busy }) := by rw [hWb]; exact World.putObj_heap_same hlt
      have hk2 : Wb.heap[w.heap.size]? = some (.deferred (some [])) := by rw [hWb]; exact (World.putObj_heap_other (by omega)).trans hk
      have hi2 : I k Wb := by rw [hWb]; exact hIp k W (w.heap.size + 1) _ _ hi (by omega) hl rfl
      have hw2 : Kb S W Wb := by rw [hWb]; exact Kb.put fun j hj e => by have := (hS j hj).1; omega
      have hs2 : W.heap.size = Wb.heap.size := by rw [hWb]; simp
      rw [← hWb]
      refine wpIn_mono (hbody _ k Wb hi2 hlen (by omega)) ?_
      rintro e a3 W3 hp
      cases e with
      | normal =>
        obtain ⟨ht, hi3⟩ := hp
        have hl3 := (ht.block _ (by omega) (by omega) (.inr ⟨_, hl2, rfl⟩)).trans hl2
        have hk3 := (ht.block _ (by omega) (by omega) (.inr ⟨_, hk2, rfl⟩)).trans hk2
        have hsz3 := ht.size
        have hr := run_endRound (P := Tryz.prog) none hl3
        rw [hrec] at hr
        refine ⟨_, _, hr, rfl, ⟨hIp _ _ _ _ _ hi3 (by omega) hl3 rfl, ?_, (World.putObj_heap_other (by omega)).trans hk3⟩, ?_⟩
        · rw [hrec]; exact World.putObj_heap_same (by omega)
        · exact (hw2.trans (ht.kb hS (by omega))).trans (Kb.put fun j hj e => by have := (hS j hj).1; omega)
      | ret => exact hp.elim
      | exit id => exact hp.elim
      | goto t => exact hp.elim
      | panic ch => exact hp.elim
      | outgrown => exact hp.elim
    · -- BEHIND THE ITERATOR
      rintro e W2 ⟨⟨v, rfl⟩, hi, hl, hk⟩
      exact ⟨none, _, by have := run_endLoop (P := Tryz.prog) hl (by rw [hrec]; simp); rw [hrec] at this; exact this, hdone _ _ (Nat.le_refl _) (hIp _ _ _ _ _ hi (by omega) hl rfl) ((World.putObj_heap_other (by omega)).trans hk)⟩
section
variable {o : Oper} {a : Act} {w w' : World} {n l : Nat} {next : Act → World → Prop} {Q : Exit → Act → World → Prop} {v : Value}
theorem wpListIn_selR (s : Nat) {ops : Array Oper} {rest : List Oper} {F : Fence} {op : Op} {t : TypeId} {p : String} {af : Array Edge} {g : Option (Nat × Bool)} (h : wpListIn F n Tryz.prog ops Q (⟨some s, op, t, p, af, g⟩ :: rest) a w) : wpListIn F n Tryz.prog ops Q (⟨some s, op, t, p, af, g⟩ :: rest) a w := h
theorem wpListIn_valR {ops : Array Oper} {rest : List Oper} (hg : o.guard = none) (hnc : ∀ c, o.op ≠ .defer c) (hrun : (execOp a.eval o).run Tryz.prog w = .ok (.value v) w') (h : wpListIn (Fence.wide.inRound l) n Tryz.prog ops Q rest (a.put o.dst v) w') : wpListIn (Fence.wide.inRound l) n Tryz.prog ops Q (o :: rest) a w :=
  wpListIn_plain hg fun _ hK => ⟨fun _ _ => trivial, by
    rw [show (Fence.wide.inRound l).round = some l from rfl, Oper.semAt_eq _ _ _ (fun c h => hnc c h), hrun]
    exact hK _ _ h⟩
end
section
variable {o : Oper} {a : Act} {w w' : World} {n : Nat} {Q : Exit → Act → World → Prop} {v : Value}
end
end Go.Proofs
namespace Go.Proofs
open Go.RowKit Go.Shelf Go.Proofs.Sm
attribute [local simp, local go_sem] wide_fn wide_depth
attribute [local go_sem] Oper.semAt_some
/-- the iterator's own number -/
structure FkSt (w0 wr : World) (br : Nat) (m : Nat) : Prop where
  below : Below w0.heap.size w0 wr
  cr : wr.heap[br]? = some (.cells #[.int .i64 (m : Int)] 3 (0, 0))
def FkS (w0 : World) (br : Nat) : Nat → Prop := fun k => k < w0.heap.size ∨ k = br
theorem FkSt.kb {w0 A B : World} {br m : Nat} (h : FkSt w0 A br m) (hk : Kb (FkS w0 br) A B) : FkSt w0 B br m :=
  ⟨⟨hk.1.trans h.below.os, hk.2.1.trans h.below.tape, hk.2.2.1.trans h.below.output, Nat.le_trans h.below.size hk.2.2.2.1, fun k hk' => (hk.2.2.2.2 k (.inl hk')).trans (h.below.block k hk')⟩, (hk.2.2.2.2 br (.inr rfl)).trans h.cr⟩
theorem FkSt.below' {w0 A B : World} {br m : Nat} (h : FkSt w0 A br m) (hb : Below A.heap.size A B) : FkSt w0 B br m :=
  ⟨h.below.trans (hb.mono h.below.size), (hb.block _ (Array.getElem?_eq_some_iff.1 h.cr).1).trans h.cr⟩
theorem FkSt.set {w0 A : World} {br m : Nat} (h : FkSt w0 A br m) (h0 : w0.heap.size ≤ br) (m' : Nat) : FkSt w0 (A.setCell ⟨br, 0, none⟩ (.int .i64 (m' : Int))) br m' := by
  have hne : ∀ k, k ≠ br → (A.setCell ⟨br, 0, none⟩ (.int .i64 (m' : Int))).heap[k]? = A.heap[k]? := fun k hk => Below.heap_setCell A ⟨br, 0, none⟩ _ k hk
  refine ⟨h.below.trans ⟨rfl, rfl, rfl, by simp [World.setCell], fun k hk => hne k (by omega)⟩, ?_⟩
  have := h.cr
  simp [World.setCell, Array.getElem?_modify, this]
def boxN (br : Nat) (w : World) : Nat := (intOf ((w.cell? ⟨br, 0, none⟩).getD undef)).toNat
theorem FkSt.boxN {w0 A : World} {br m : Nat} (h : FkSt w0 A br m) : boxN br A = m := by
  unfold Go.Proofs.boxN
  rw [(cell_of1 h.cr).1]
  rfl
theorem factF_step {m f : Nat} {L : List (Int × Int)} {k : Nat} (h : factF m f = L.drop k) (hm : 1 < m) (hf : m ≤ f) : ∃ f', factF (stripF (divN m) m 0 m).1 f' = L.drop (k + 1) ∧ (stripF (divN m) m 0 m).1 ≤ f' ∧ k < L.length ∧ L.getD k (0, 0) = (((divN m : Nat) : Int), (((stripF (divN m) m 0 m).2 : Nat) : Int)) := by
  obtain ⟨f', rfl⟩ : ∃ f', f = f' + 1 := ⟨f - 1, by omega⟩
  unfold factF at h
  rw [if_pos hm] at h
  have hk : k < L.length := by
    rcases Nat.lt_or_ge k L.length with h1 | h1
    · exact h1
    · rw [List.drop_eq_nil_of_le h1] at h; cases h
  rw [List.drop_eq_getElem_cons hk] at h
  injection h with h1 h2
  have := strip_lt2 hm
  exact ⟨f', h2, by omega, hk, by rw [List.getD_eq_getElem?_getD, List.getElem?_eq_getElem hk]; exact h1.symm⟩
theorem factF_end {m f : Nat} {L : List (Int × Int)} {k : Nat} (h : factF m f = L.drop k) (hm : ¬ 1 < m) (hk : k ≤ L.length) : k = L.length := by
  have h1 : factF m f = [] := by
    cases f with
    | zero => rfl
    | succ f => unfold factF; rw [if_neg hm]
  rw [h1] at h
  have := congrArg List.length h
  simp at this
  omega
def encF (L : List (Int × Int)) (k : Nat) : Array Value := #[.int .i64 (L.getD k (0, 0)).1, .int .i64 (L.getD k (0, 0)).2]
set_option maxRecDepth 100000 in
set_option maxHeartbeats 2000000 in
theorem walk79 (n l br : Nat) (J : Nat → World → Prop) (W w0 : World) (m0 : Nat) (L : List (Int × Int)) (f0 : Nat)
    (hst : FkSt w0 W br m0) (hbr : w0.heap.size ≤ br) (hm0 : m0 ≤ 1000000000) (hL : factF m0 f0 = L) (hf0 : m0 ≤ f0)
    (hJa : ∀ k A B, J k A → Below A.heap.size A B → J k B) (hJs : ∀ k A v, J k A → (A.cell? ⟨br, 0, none⟩).isSome = true → J k (A.setCell ⟨br, 0, none⟩ v))
    (hY : ∀ k W1, J k W1 → k < L.length → YieldAt Fence.wide (n - 1) Tryz.prog l (encF L k) W1 fun e W' => e = .returned (.bool true) ∧ J (k + 1) W' ∧ Kb (FkS w0 br) W1 W')
    (h0 : J 0 W) :
    CallsIn Fence.wide n Tryz.prog 62 #[.func (.yield l) #[] #[], .pointer (some ⟨br, 0, none⟩)] W fun e W' => (∃ v, e = .returned v) ∧ J L.length W' := by
  have HST := Lib.hid hst
  have HJA := Lib.hid hJa
  have HJS := Lib.hid hJs
  have HY := Lib.hid hY
  have H0 := Lib.hid (And.intro h0 hL)
  have HF0 := Lib.hid hf0
  clear hst hJa hJs hY h0 hL hf0
  gi_enter Tryz.func62, Tryz.ntmps62
  gi_wp2_with fail
  gi_loopw [3] (fun _ wr => ∃ k m f : Nat, k ≤ L.length ∧ m ≤ 1000000000 ∧ Hid (J k wr ∧ FkSt w0 wr br m ∧ factF m f = L.drop k ∧ m ≤ f)) (fun _ wr => boxN br wr)
  case atStart => exact ⟨0, m0, f0, by omega, hm0, Lib.hid ⟨H0.out.1, HST.out, H0.out.2, HF0.out⟩⟩
  case round =>
    obtain ⟨k, m, f, hk, hm, HI⟩ := hrel
    have hcr := (cell_of1 HI.out.2.1.cr).1
    have HBX := Lib.hid HI.out.2.1.boxN
    by_cases h1 : 1 < m
    · have h1' : (1 : Int) < (m : Int) := by omega
      obtain ⟨f', hf1, hf2, hkl, hen⟩ := factF_step HI.out.2.2.1 h1 HI.out.2.2.2
      obtain ⟨hpp, hpd⟩ := divN_spec (n := m) (by omega)
      have hlt2 := strip_lt2 h1
      have hdl := divN_le (n := m) (by omega)
      have HD := Lib.hid (divides69_any wr m hm)
      have HEN : Hid (encF L k = #[.int .i64 ((divN m : Nat) : Int), .int .i64 (((stripF (divN m) m 0 m).2 : Nat) : Int)]) := Lib.hid (by unfold encF; rw [hen])
      have HF := Lib.hid (And.intro hf1 hf2)
      have hp2 := hpp.1
      have HLT := Lib.hid hlt2
      clear hf1 hf2 hen hpp hpd hlt2
      obtain ⟨T, hT⟩ : ∃ T, T = stripF (divN m) m 0 m := ⟨_, rfl⟩
      rw [← hT] at HEN HF HLT
      have HT := Lib.hid hT.symm
      clear hT
      generalize divN m = p at *
      gi_wp2_with ((refine (callsIn_wide.2 HD.out).mono ?_); rintro e w1 ⟨rfl, q, rfl⟩)
      gi_loopw [4] (fun zk wr1 => ∃ x j g : Nat, zk = .int .i64 j ∧ 1 ≤ x ∧ x ≤ m ∧ j ≤ m ∧ j + x ≤ m ∧ Hid (J k wr1 ∧ FkSt w0 wr1 br x ∧ stripF p x j g = T ∧ x ≤ g)) (fun _ wr1 => boxN br wr1)
      case atStart => exact ⟨m, 0, m, rfl, by omega, by omega, by omega, by omega, Lib.hid ⟨HJA.out _ _ _ HI.out.1 (below_drewN (Below.refl _ _) _), HI.out.2.1.below' (below_drewN (Below.refl _ _) _), HT.out, Nat.le_refl _⟩⟩
      case round =>
        obtain ⟨x, j, g, rfl, hx1, hxm, hjm, hjx, HQ⟩ := hrel
        have hcx := (cell_of1 HQ.out.2.1.cr).1
        have hfx := (cell_of1 HQ.out.2.1.cr).2
        have HBX1 := Lib.hid HQ.out.2.1.boxN
        have hp0 : ((p : Int) == 0) = false := by simp; omega
        have hp0' : ((p : Int) != 0) = true := by simp; omega
        have hj0 : (0 : Int) ≤ (j : Int) := Int.natCast_nonneg _
        have hjb : (j : Int) ≤ 1000000000 := by omega
        have ht := tmod_nat x p
        have htd := tdiv_nat x p
        have hmd : x % p < p := Nat.mod_lt _ (by omega)
        have hpb : p ≤ 1000000000 := by omega
        have hwt : IntKind.i64.wrap ((x % p : Nat) : Int) = ((x % p : Nat) : Int) := IntWalk.i64_in _ (by omega)
        by_cases h0 : x % p = 0
        · obtain ⟨g', hg⟩ : ∃ g', g = g' + 1 := ⟨g - 1, by have := HQ.out.2.2.2; omega⟩
          have hst := HQ.out.2.2.1
          rw [hg] at hst
          unfold stripF at hst
          rw [if_pos h0] at hst
          have hl := strip_lt hx1 hp2
          have hps := strip_pos hx1 hp2 h0
          have hwd : IntKind.i64.wrap ((x / p : Nat) : Int) = ((x / p : Nat) : Int) := IntWalk.i64_in _ (by omega)
          have HN : Hid (J k (wr.setCell ⟨br, 0, none⟩ (.int .i64 ((x / p : Nat) : Int))) ∧ FkSt w0 (wr.setCell ⟨br, 0, none⟩ (.int .i64 ((x / p : Nat) : Int))) br (x / p) ∧ stripF p (x / p) (j + 1) g' = T ∧ x / p ≤ g') := Lib.hid ⟨HJS.out _ _ _ HQ.out.1 (by rw [hcx]; rfl), HQ.out.2.1.set hbr _, hst, by have := HQ.out.2.2.2; omega⟩
          have HBN := Lib.hid HN.out.2.1.boxN
          rw [h0] at ht hwt
          have ht0 : ((0 : Nat) : Int) = 0 := rfl
          rw [ht0] at ht hwt
          clear hst hg
          generalize x / p = y at *
          gi_wp2_with fail
          exact ⟨⟨y, j + 1, g', by go_num, hps, by omega, by omega, by omega, HN⟩, by rw [HBN.out, HBX1.out]; exact hl⟩
        · have hst : T = (x, j) := by
            have := HQ.out.2.2.1
            cases g with
            | zero => exact this.symm
            | succ g => unfold stripF at this; rw [if_neg h0] at this; exact this.symm
          have hne : (((x % p : Nat) : Int) == 0) = false := by simp; omega
          have hne2 : ((x % p : Nat) : Int) ≠ 0 := by omega
          have HX1 : Hid (T.1 = x) := Lib.hid (by rw [hst])
          have HX2 : Hid (T.2 = j) := Lib.hid (by rw [hst])
          obtain ⟨fn, tmps, assign, body, hy, hR⟩ := HY.out k wr HQ.out.1 hkl
          rw [HEN.out, HX2.out] at hy
          have HR := Lib.hid hR
          clear hst hR
          generalize x % p = y at *
          gi_wp2_with (refine HR.out.mono ?_; rintro e W2 ⟨rfl, hj, hkp⟩
                       have HS3 := Lib.hid (And.intro hj (HQ.out.2.1.kb hkp))
                       clear hj hkp)
          exact ⟨⟨k + 1, x, _, by omega, by omega, Lib.hid ⟨HS3.out.1, HS3.out.2, by rw [← HX1.out]; exact HF.out.1, by rw [← HX1.out]; exact HF.out.2⟩⟩, by rw [HBX.out, HS3.out.2.boxN, ← HX1.out]; exact HLT.out.1⟩
    · have h1' : ¬ (1 : Int) < (m : Int) := by omega
      have HE := Lib.hid (factF_end HI.out.2.2.1 h1 hk)
      gi_wp2_with fail
      go_end0
      exact ⟨⟨_, rfl⟩, by rw [← HE.out]; exact HI.out.1⟩
end Go.Proofs
