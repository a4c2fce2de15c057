/- slices.ContainsFunc at pairs, by Join's test; slices.SortFunc at pairs, by smith.ascending; Join, plainly: what it comes to, place by place; Ranges over functions: the laws (out of chapter 21's texts); The iterator of prime.factors; prime.Factors; slices.SortFunc at pairs, by smith.ascending: what it leaves; slices.SortFunc at pairs, whole. -/
import Derived.Test.YthfachbkcmifbaaNaCS7
import Derived.Shelf.SlSortCmp.WholeK
import Derived.Shelf.Lay
import Derived.Ground.SlsfProg
import Derived.Deep.RegionHeld3
import Derived.Test.YthfachbkcmifbaaNaCS1
import Derived.RangeFuncNested
import Derived.RangeFuncCalls
import Derived.OwnWalkIn
import Derived.TacticsInMore
import Derived.LoopNIn
import Derived.LoopIn
import Derived.RangeFuncFrom
import Derived.RangeFuncLeaves
namespace Go.Proofs
open Go.RowKit Go.Shelf Go.Proofs.Sm
theorem getD_memP {ps : List Pr} {k : Nat} (h : k < ps.length) : ps.getD k (0, 0) ∈ ps := by
  rw [List.getD_eq_getElem?_getD, List.getElem?_eq_getElem h]; exact List.getElem_mem h
theorem any_hit {ps : List Pr} {k : Nat} (h : k < ps.length) (hb : badJ (ps.getD k (0, 0)) = true) : ps.any badJ = true := List.any_eq_true.2 ⟨_, getD_memP h, hb⟩
theorem any_none {ps : List Pr} (h : ∀ j, j < ps.length → badJ (ps.getD j (0, 0)) = false) : ps.any badJ = false := by
  rw [List.any_eq_false]
  intro p hp
  obtain ⟨j, hj, rfl⟩ := List.getElem_of_mem hp
  have := h j hj
  rw [List.getD_eq_getElem?_getD, List.getElem?_eq_getElem hj] at this
  simpa using this
set_option maxRecDepth 100000 in
theorem index68_any (w : World) (v : Value) (ps : List Pr) (h : PrsAt w v ps) (hf : PFits ps) : Calls Try.prog 68 #[v, .func (.func 49) #[] #[]] w fun e w' => (∃ r : Int, e = .returned (.int .i64 r) ∧ decide (0 ≤ r) = ps.any badJ) ∧ Below w.heap.size w w' := by
  obtain ⟨A, c, rfl, hc1, hc2, hc⟩ := h.at_
  have HC := Lib.hid hc
  have HF := Lib.hid hf
  clear h hc hf
  obtain ⟨R, hR⟩ : ∃ R, R = ps.any badJ := ⟨_, rfl⟩
  rw [← hR]
  have HR := Lib.hid hR
  clear hR
  go_enter Try.func68, Try.ntmps68
  go_wp2_with fail
  go_loopw [8] (fun i wr => ∃ k : Nat, k ≤ ps.length ∧ i = .int .i64 k ∧ Hid (Below w.heap.size w wr ∧ ∀ j, j < k → badJ (ps.getD j (0, 0)) = false)) (fun i _ => ps.length - (intOf i).toNat)
  case atStart => exact ⟨0, Nat.zero_le _, rfl, Lib.hid ⟨Below.refl _ _, fun j hj => absurd hj (by omega)⟩⟩
  case round =>
    obtain ⟨k, hk, rfl, HI⟩ := hrel
    have hk0 : (0 : Int) ≤ (k : Int) := Int.natCast_nonneg _
    by_cases hlt : k < ps.length
    · have hlt' : (k : Int) < (ps.length : Int) := by omega
      obtain ⟨b, o, rfl, hcc⟩ := HC.out (by omega)
      obtain ⟨x1, x2⟩ := hcc k hlt
      have y1 := (HI.out.1.cell (p := ⟨b, o + k * 2, none⟩) (World.block_lt_of_cell? w _ x1)).trans x1
      have y2 := (HI.out.1.cell (p := ⟨b, o + k * 2 + 1, none⟩) (World.block_lt_of_cell? w _ x2)).trans x2
      obtain ⟨f1, f2⟩ := HF.out _ (getD_memP hlt)
      have HH := Lib.hid fun h => any_hit hlt h
      have HS := Lib.hid fun h => all_succ HI.out.2 h
      clear hcc x1 x2
      generalize ps.getD k (0, 0) = p at *
      obtain ⟨p1, p2⟩ := p
      simp only at y1 y2
      have HCALL := Lib.hid fun W => join49_any W (p1, p2) f1 f2
      clear f1 f2
      cases hb : badJ (p1, p2) with
      | true =>
        rw [hb] at HCALL
        have HE : Hid (R = true) := Lib.hid (by rw [HR.out]; exact HH.out hb)
        clear hb
        go_wp2_with fail
        refine (HCALL.out _).mono ?_
        rintro e w1 ⟨rfl, hb⟩
        have HB := Lib.hid (HI.out.1.trans (hb.mono HI.out.1.size))
        clear hb
        go_wp2_with fail
        go_ret
        exact ⟨⟨_, rfl, by rw [HE.out]; exact decide_eq_true hk0⟩, HB.out⟩
      | false =>
        rw [hb] at HCALL
        have HB0 := Lib.hid hb
        clear hb
        go_wp2_with fail
        refine (HCALL.out _).mono ?_
        rintro e w1 ⟨rfl, hb⟩
        have HB := Lib.hid (HI.out.1.trans (hb.mono HI.out.1.size))
        clear hb
        go_wp2_with fail
        go_roundw
        case rel => exact ⟨k + 1, by omega, by go_num, Lib.hid ⟨HB.out, HS.out HB0.out⟩⟩
        case measure => simp [intOf]; omega
    · obtain rfl : k = ps.length := by omega
      have HE : Hid (R = false) := Lib.hid (by rw [HR.out]; exact any_none HI.out.2)
      go_wp2_with fail
      go_ret
      exact ⟨⟨_, rfl, by rw [HE.out]; rfl⟩, HI.out.1⟩
theorem contains48_any (w : World) (v : Value) (ps : List Pr) (h : PrsAt w v ps) (hf : PFits ps) : Calls Try.prog 48 #[v, .func (.func 49) #[] #[]] w fun e w' => e = .returned (.bool (ps.any badJ)) ∧ Below w.heap.size w w' := by
  have HI := Lib.hid (index68_any w v ps h hf)
  obtain ⟨A, c, rfl, -, -, -⟩ := h
  clear hf
  generalize ps.length = l at *
  generalize ps.any badJ = R at *
  go_enter Try.func48, Try.ntmps48
  go_wp2_with (go_at_call 68; (refine HI.out.mono ?_); rintro e w1 ⟨⟨r, rfl, hr⟩, hb⟩; have HB := Lib.hid hb; have HE := Lib.hid hr; clear hb hr)
  go_ret
  exact ⟨ret_bool HE.out, HB.out⟩
end Go.Proofs
namespace Go.Proofs
open Go.Shelf Go.RowKit Go.Lib Go.Sort
shelf_lay_g SlLaysF0.n6 Slsf 6 at Try 46 as Try.sortP
def cmpI (x y : Int) : Int := if x < y then -1 else if y < x then 1 else 0
def cfP (p q : Pr) : Int := if cmpI p.1 q.1 ≠ 0 then cmpI p.1 q.1 else cmpI p.2 q.2
theorem ltP (p q : Pr) : ltOf cfP p q = decide (p.1 < q.1 ∨ p.1 = q.1 ∧ p.2 < q.2) := by
  unfold ltOf cfP cmpI
  by_cases h1 : p.1 < q.1
  · simp [h1]
  · by_cases h2 : q.1 < p.1
    · have : ¬ p.1 = q.1 := by omega
      simp [h1, h2, this]
    · have : p.1 = q.1 := by omega
      by_cases h3 : p.2 < q.2
      · simp [this, h3]
      · by_cases h4 : q.2 < p.2 <;> simp [this, h3, h4]
theorem swoP : SWO (ltOf cfP) where
  irrefl x := by rw [ltP]; simp
  trans x y z h1 h2 := by rw [ltP] at *; simp at *; omega
  ntrans x y z h1 h2 := by rw [ltP] at *; simp at *; omega
def leP (p q : Pr) : Bool := decide (p.1 < q.1 ∨ p.1 = q.1 ∧ p.2 ≤ q.2)
def sortP (ps : List Pr) : List Pr := ps.mergeSort leP
theorem leP_trans (a b c : Pr) (h1 : leP a b = true) (h2 : leP b c = true) : leP a c = true := by unfold leP at *; simp at *; omega
theorem leP_total (a b : Pr) : (leP a b || leP b a) = true := by unfold leP; simp; omega
theorem leP_anti {a b : Pr} (h1 : leP a b = true) (h2 : leP b a = true) : a = b := by
  unfold leP at *; simp at *
  exact Prod.ext (by omega) (by omega)
theorem sortP_perm (ps : List Pr) : (sortP ps).Perm ps := List.mergeSort_perm _ _
theorem sortP_length (ps : List Pr) : (sortP ps).length = ps.length := (sortP_perm ps).length_eq
theorem sortP_sorted (ps : List Pr) : (sortP ps).Pairwise fun a b => leP a b = true := List.pairwise_mergeSort leP_trans leP_total ps
theorem sortP_unique {ps qs : List Pr} (h : qs.Perm ps) (hs : qs.Pairwise fun a b => leP a b = true) : qs = sortP ps :=
  List.Perm.eq_of_pairwise (fun _ _ _ _ h1 h2 => leP_anti h1 h2) hs (sortP_sorted ps) (h.trans (sortP_perm ps).symm)
theorem sortP_congr {ps qs : List Pr} (h : qs.Perm ps) : sortP qs = sortP ps := sortP_unique ((sortP_perm qs).trans h) (sortP_sorted qs)
def Gr (W W' : World) : Prop := ∃ q os, W' = grow (W.drewN q) os
theorem Gr.refl (W : World) : Gr W W := ⟨0, #[], by simp; rfl⟩
theorem Gr.alloc {W W' : World} (h : Gr W W') (o : Obj) : Gr W (W'.alloc o) := let ⟨q, os, e⟩ := h; ⟨q, os ++ #[o], by rw [e, alloc_eq_grow, grow_grow]⟩
theorem Gr.drew {W W' : World} (h : Gr W W') : Gr W W'.drew := let ⟨q, os, e⟩ := h; ⟨q + 1, os, by rw [e, drew_grow]; rfl⟩
theorem Gr.drewN {W W' : World} (h : Gr W W') (n : Nat) : Gr W (W'.drewN n) := let ⟨q, os, e⟩ := h; ⟨q + n, os, by rw [e, ← World.drewN_drewN]; rfl⟩
theorem isNaN78_any (w : World) (x : Int) : Calls Try.prog 78 #[.int .i64 x] w fun e w' => e = .returned (.bool false) ∧ w' = w := by
  have hd : (x != x) = false := by simp
  go_enter Try.func78, Try.ntmps78
  go_wp2_with fail
  go_ret
  exact ⟨rfl, rfl⟩
theorem compare63_any (w : World) (x y : Int) : Calls Try.prog 63 #[.int .i64 x, .int .i64 y] w fun e w' => e = .returned (.int .i64 (cmpI x y)) ∧ w' = w := by
  have HX := Lib.hid fun W => isNaN78_any W x
  have HY := Lib.hid fun W => isNaN78_any W y
  obtain ⟨R, hR⟩ : ∃ R, R = cmpI x y := ⟨_, rfl⟩
  rw [← hR]
  by_cases h1 : x < y
  · have HE : Hid (R = -1) := Lib.hid (by rw [hR]; unfold cmpI; rw [if_pos h1])
    clear hR
    go_enter Try.func63, Try.ntmps63
    go_wp2_with (first
      | (go_at_call 78; (with_reducible refine (HX.out _).mono ?_); rintro e w' ⟨rfl, rfl⟩)
      | (go_at_call 78; (with_reducible refine (HY.out _).mono ?_); rintro e w' ⟨rfl, rfl⟩))
    go_ret
    exact ⟨ret_int HE.out.symm, rfl⟩
  · by_cases h2 : y < x
    · have HE : Hid (R = 1) := Lib.hid (by rw [hR]; unfold cmpI; rw [if_neg h1, if_pos h2])
      clear hR
      go_enter Try.func63, Try.ntmps63
      go_wp2_with (first
        | (go_at_call 78; (with_reducible refine (HX.out _).mono ?_); rintro e w' ⟨rfl, rfl⟩)
        | (go_at_call 78; (with_reducible refine (HY.out _).mono ?_); rintro e w' ⟨rfl, rfl⟩))
      go_ret
      exact ⟨ret_int HE.out.symm, rfl⟩
    · have HE : Hid (R = 0) := Lib.hid (by rw [hR]; unfold cmpI; rw [if_neg h1, if_neg h2])
      clear hR
      go_enter Try.func63, Try.ntmps63
      go_wp2_with (first
        | (go_at_call 78; (with_reducible refine (HX.out _).mono ?_); rintro e w' ⟨rfl, rfl⟩)
        | (go_at_call 78; (with_reducible refine (HY.out _).mono ?_); rintro e w' ⟨rfl, rfl⟩))
      go_ret
      exact ⟨ret_int HE.out.symm, rfl⟩
theorem or67_any (w : World) (v : Value) (a b : Int) (h : IntsAt w v [a, b]) : Calls Try.prog 67 #[v] w fun e w' => e = .returned (.int .i64 (if a ≠ 0 then a else b)) ∧ ∃ q, w' = w.drewN q := by
  obtain ⟨A, c, rfl, h1, h2, hc⟩ := h.open_
  obtain ⟨g, o, rfl, hcc⟩ := hc (by simp)
  have ha := hcc 0 (by simp)
  have hb := hcc 1 (by simp)
  simp only [List.getD_cons_zero, List.getD_cons_succ, Nat.add_zero] at ha hb
  clear h hc hcc
  simp only [List.length_cons, List.length_nil, Nat.zero_add] at h1 ⊢
  obtain ⟨R, hR⟩ : ∃ R, R = (if a ≠ 0 then a else b) := ⟨_, rfl⟩
  rw [← hR]
  have HR := Lib.hid hR
  clear hR
  go_enter Try.func67, Try.ntmps67
  go_wp2_with fail
  go_loopw [8] (fun z wr => ∃ k : Nat, k ≤ 2 ∧ z = .int .i64 k ∧ (1 ≤ k → a = 0) ∧ (2 ≤ k → b = 0) ∧ ∃ q, wr = w.drewN q) (fun z _ => 2 - (intOf z).toNat)
  case atStart => exact ⟨0, by omega, rfl, fun h => absurd h (by omega), fun h => absurd h (by omega), 0, rfl⟩
  case round =>
    obtain ⟨k, hk, rfl, hz1, hz2, q, rfl⟩ := hrel
    obtain rfl | rfl | rfl : k = 0 ∨ k = 1 ∨ k = 2 := by omega
    · clear hz1 hz2
      by_cases h0 : a = 0
      · have hd : (a != 0) = false := by simpa using h0
        have H0 := Lib.hid h0
        clear h0
        go_wp2_with fail
        go_roundw
        case rel => exact ⟨1, by omega, by go_num, fun _ => H0.out, fun h => absurd h (by omega), _, rfl⟩
        case measure => simp [intOf]
      · have hd : (a != 0) = true := by simpa using h0
        have HE : Hid (R = a) := Lib.hid (by rw [HR.out, if_pos h0])
        clear h0
        go_wp2_with fail
        go_ret
        exact ⟨ret_int HE.out.symm, _, rfl⟩
    · have ha0 := hz1 (by omega)
      subst ha0
      clear hz1 hz2
      have HE : Hid (R = b) := Lib.hid (by rw [HR.out]; simp)
      by_cases h0 : b = 0
      · have hd : (b != 0) = false := by simpa using h0
        have H0 := Lib.hid h0
        clear h0
        go_wp2_with fail
        go_roundw
        case rel => exact ⟨2, by omega, by go_num, fun _ => trivial, fun _ => H0.out, _, rfl⟩
        case measure => simp [intOf]
      · have hd : (b != 0) = true := by simpa using h0
        clear h0
        go_wp2_with fail
        go_ret
        exact ⟨ret_int HE.out.symm, _, rfl⟩
    · have HE : Hid (R = 0) := Lib.hid (by rw [HR.out, if_neg (by simpa using hz1 (by omega))]; exact hz2 (by omega))
      clear hz1 hz2
      go_wp2_with fail
      go_ret
      exact ⟨ret_int HE.out.symm, _, rfl⟩
end Go.Proofs
namespace Go.Proofs
open Go.RowKit Go.Shelf Go.Proofs.Sm
def sortD (ps : List Pr) : List Pr := (sortP ps).reverse
/-- the place of the next factor -/
def atE (L : List Pr) (i a : Nat) : Nat := if 0 < i ∧ (L.getD i (0, 0)).1 ≠ (L.getD (i - 1) (0, 0)).1 then 0 else a
def outE (o : List Int) (a : Nat) : List Int := if a = o.length then o ++ [1] else o
def joinS (L : List Pr) (i : Nat) (st : List Int × Nat) : Option (List Int × Nat) :=
  if (outE st.1 (atE L i st.2)).getD (atE L i st.2) 0 * (powE (L.getD i (0, 0)).1.toNat (L.getD i (0, 0)).2.toNat : Int) < 1 ∨ 1000000000 < (outE st.1 (atE L i st.2)).getD (atE L i st.2) 0 * (powE (L.getD i (0, 0)).1.toNat (L.getD i (0, 0)).2.toNat : Int) then none
  else some ((outE st.1 (atE L i st.2)).set (atE L i st.2) ((outE st.1 (atE L i st.2)).getD (atE L i st.2) 0 * (powE (L.getD i (0, 0)).1.toNat (L.getD i (0, 0)).2.toNat : Int)), atE L i st.2 + 1)
def joinTo (L : List Pr) : Nat → Option (List Int × Nat)
  | 0 => some ([], 0)
  | i + 1 => (joinTo L i).bind (joinS L i)
/-- what is true of the list as it grows -/
structure JOk (i : Nat) (st : List Int × Nat) : Prop where
  at_ : st.2 ≤ st.1.length
  len : st.1.length ≤ i
  bd : ∀ z ∈ st.1, 1 ≤ z ∧ z ≤ 1000000000
theorem JOk.zero : JOk 0 ([], 0) := ⟨Nat.le_refl _, Nat.le_refl _, fun z hz => by cases hz⟩
theorem atE_le {L : List Pr} {i : Nat} {st : List Int × Nat} (h : JOk i st) : atE L i st.2 ≤ st.1.length := by
  unfold atE
  split
  · omega
  · exact h.at_
theorem outE_lt {o : List Int} {a : Nat} (h : a ≤ o.length) : a < (outE o a).length := by
  unfold outE
  split
  · simp; omega
  · omega
theorem outE_bd {o : List Int} {a : Nat} (h : ∀ z ∈ o, 1 ≤ z ∧ z ≤ 1000000000) : ∀ z ∈ outE o a, 1 ≤ z ∧ z ≤ 1000000000 := by
  unfold outE
  split
  · intro z hz
    rcases List.mem_append.1 hz with hz | hz
    · exact h z hz
    · rw [List.mem_singleton] at hz
      omega
  · exact h
theorem getD_bd {o : List Int} {a : Nat} (h : ∀ z ∈ o, 1 ≤ z ∧ z ≤ 1000000000) (ha : a < o.length) : 1 ≤ o.getD a 0 ∧ o.getD a 0 ≤ 1000000000 := by
  rw [List.getD_eq_getElem?_getD, List.getElem?_eq_getElem ha]
  exact h _ (List.getElem_mem ha)
theorem powE_le (p n : Nat) : powE p n ≤ 1000000000 := by
  unfold powE
  split
  · assumption
  · omega
theorem joinS_ok {L : List Pr} {i : Nat} {st st' : List Int × Nat} (h : JOk i st) (he : joinS L i st = some st') : JOk (i + 1) st' := by
  unfold joinS at he
  split at he
  · cases he
  · rename_i hn
    cases he
    have ha := atE_le (L := L) h
    have hl := outE_lt ha
    refine ⟨by simp; omega, ?_, fun z hz => ?_⟩
    · rw [List.length_set]
      unfold outE
      split
      · simp; exact h.len
      · have := h.len; omega
    · rcases List.mem_or_eq_of_mem_set hz with hz | hz
      · exact outE_bd h.bd z hz
      · omega
theorem joinTo_ok {L : List Pr} : ∀ {i : Nat} {st : List Int × Nat}, joinTo L i = some st → JOk i st
  | 0, st, h => by cases h; exact JOk.zero
  | i + 1, st, h => by
    unfold joinTo at h
    cases h1 : joinTo L i with
    | none => rw [h1] at h; cases h
    | some s => rw [h1] at h; exact joinS_ok (joinTo_ok h1) h
theorem joinTo_none {L : List Pr} {k : Nat} (h : joinTo L k = none) : ∀ d, joinTo L (k + d) = none
  | 0 => h
  | d + 1 => by
    show (joinTo L (k + d)).bind _ = none
    rw [joinTo_none h d]
    rfl
def joinOf (L : List Pr) (n : Nat) : List Int × Int := match joinTo L n with
  | none => ([], 5)
  | some st => (st.1.reverse, 0)
theorem joinOf_none {L : List Pr} {n : Nat} (h : joinTo L n = none) : joinOf L n = ([], 5) := by unfold joinOf; rw [h]
theorem joinOf_some {L : List Pr} {n : Nat} {st : List Int × Nat} (h : joinTo L n = some st) : joinOf L n = (st.1.reverse, 0) := by unfold joinOf; rw [h]
def joinE (ps : List Pr) : List Int × Int := if 1000 < ps.length then ([], 4) else if ps.any badJ = true then ([], 3) else joinOf (sortD ps) ps.length
end Go.Proofs
namespace Go.Proofs
open Go.RowKit Go.Shelf
theorem wide_fn (f : FuncId) : Fence.wide.fn f := trivial
theorem wide_depth : Fence.wide.depth = none := rfl
/-- what the walk's body leaves alone -/
def Kb (S : Nat → Prop) (A B : World) : Prop := B.os = A.os ∧ B.tape = A.tape ∧ B.output = A.output ∧ A.heap.size ≤ B.heap.size ∧ Ag S A B
theorem cell_of1 {w : World} {b : Nat} {v : Value} {e : TypeId} (h : w.heap[b]? = some (.cells #[v] e (0, 0))) : w.cell? ⟨b, 0, none⟩ = some v ∧ w.frozen? ⟨b, 0, none⟩ = false :=
  ⟨by rw [cell_of_row _ _ _ _ _ _ h]; rfl, by simp [World.frozen?, h]⟩
/-- what a body does to a world: it writes its own box bo and blocks of cells from B on -/
structure Turned (bo B : Nat) (W W' : World) : Prop where
  os : W'.os = W.os
  tape : W'.tape = W.tape
  output : W'.output = W.output
  size : W.heap.size ≤ W'.heap.size
  block : ∀ k, k < W.heap.size → k ≠ bo → (k < B ∨ ∃ o : Obj, W.heap[k]? = some o ∧ o.isCells = false) → W'.heap[k]? = W.heap[k]?
theorem Turned.refl (bo B : Nat) (W : World) : Turned bo B W W := ⟨rfl, rfl, rfl, Nat.le_refl _, fun _ _ _ _ => rfl⟩
theorem Turned.trans {bo B : Nat} {W X Y : World} (h : Turned bo B W X) (k : Turned bo B X Y) : Turned bo B W Y :=
  ⟨k.os.trans h.os, k.tape.trans h.tape, k.output.trans h.output, Nat.le_trans h.size k.size, fun i hi hb hc =>
    (k.block i (Nat.lt_of_lt_of_le hi h.size) hb (hc.imp id fun ⟨o, ho, hn⟩ => ⟨o, (h.block i hi hb hc).trans ho, hn⟩)).trans (h.block i hi hb hc)⟩
theorem Turned.of_below {bo B : Nat} {W X : World} (h : Below W.heap.size W X) : Turned bo B W X := ⟨h.os, h.tape, h.output, h.size, fun i hi _ _ => h.block i hi⟩
theorem Turned.set {bo B : Nat} {W : World} (v : Value) : Turned bo B W (W.setCell ⟨bo, 0, none⟩ v) := ⟨rfl, rfl, rfl, by simp [World.setCell], fun i _ hb _ => Below.heap_setCell W ⟨bo, 0, none⟩ v i hb⟩
theorem Turned.grown {bo B : Nat} {W X : World} {row : Option Nat} (h : W.grownBy X row) (hr : ∀ r, row = some r → B ≤ r ∧ ∃ o : Obj, W.heap[r]? = some o ∧ o.isCells = true) : Turned bo B W X :=
  ⟨h.os, h.tape, h.output, h.size, fun i hi _ hc => h.block i hi fun e => by
    obtain ⟨h1, o, h2, h3⟩ := hr i e.symm
    rcases hc with hc | ⟨o', h4, h5⟩
    · omega
    · rw [h2] at h4; cases h4; rw [h3] at h5; cases h5⟩
theorem Turned.kb {bo B : Nat} {W X : World} (h : Turned bo B W X) {S : Nat → Prop} (hS : ∀ k, S k → k < B ∧ k ≠ bo) (hB : B ≤ W.heap.size) : Kb S W X :=
  ⟨h.os, h.tape, h.output, h.size, fun k hk => h.block k (Nat.lt_of_lt_of_le (hS k hk).1 hB) (hS k hk).2 (.inl (hS k hk).1)⟩
theorem Kb.trans {S : Nat → Prop} {A B C : World} (h : Kb S A B) (k : Kb S B C) : Kb S A C :=
  ⟨k.1.trans h.1, k.2.1.trans h.2.1, k.2.2.1.trans h.2.2.1, Nat.le_trans h.2.2.2.1 k.2.2.2.1, h.2.2.2.2.trans k.2.2.2.2⟩
theorem Kb.put {S : Nat → Prop} {W : World} {l : Nat} {o : Obj} (hS : ∀ k, S k → k ≠ l) : Kb S W (W.putObj l o) :=
  ⟨rfl, rfl, rfl, by simp, fun k hk => World.putObj_heap_other (hS k hk)⟩
/-- the post of a body that goes on -/
def goesOn (bo B : Nat) (I : World → Prop) (W : World) : Exit → Act → World → Prop
  | .normal, _, W' => Turned bo B W W' ∧ I W'
  | _, _, _ => False
theorem wpIn_rangeWalk {n : Nat} {g : Operand} {ps : Array Tmp} {assign body : Code} {Q : Exit → Act → World → Prop} {a : Act} {w : World}
    {gf : Nat} {lb : Array Value} (hg : a.eval g = .func (.func gf) #[] lb) (eg : ∀ args w, (callFunc gf args).run Try.prog w = .ok (.enter gf args) w)
    {encs : Nat → Array Value} {S : Nat → Prop} (N bo br : Nat) (hbo : bo < w.heap.size) (hbr : br < w.heap.size) (hS : ∀ k, S k → k < w.heap.size ∧ k ≠ bo) (hps : ∀ k, (encs k).size = ps.size)
    (hseq : ∀ (l : Nat) (J : Nat → World → Prop) (W : World), Below w.heap.size w W →
      (∀ k A B, J k A → Below A.heap.size A B → J k B) → (∀ k A v, J k A → (A.cell? ⟨br, 0, none⟩).isSome = true → J k (A.setCell ⟨br, 0, none⟩ v)) →
      (∀ k W1, J k W1 → k < N → YieldAt Fence.wide (n - 1 - 1) Try.prog l (encs k) W1 fun e W' => e = .returned (.bool true) ∧ J (k + 1) W' ∧ Kb S W1 W') →
      J 0 W → CallsIn Fence.wide (n - 1) Try.prog gf (#[.func (.yield l) #[] #[]] ++ lb) W fun e W' => (∃ v, e = .returned v) ∧ J N W')
    (I : Nat → World → Prop) (hIa : ∀ k A B, I k A → Below A.heap.size A B → I k B) (hIs : ∀ k A v, I k A → (A.cell? ⟨br, 0, none⟩).isSome = true → I k (A.setCell ⟨br, 0, none⟩ v))
    (hIp : ∀ k A l (o o' : Obj), I k A → w.heap.size ≤ l → A.heap[l]? = some o → o.isCells = false → I k (A.putObj l o'))
    (h0 : I 0 w) (a₁ : Nat → Act)
    (hassign : ∀ (l : Nat) (k : Nat) (W : World) (K : Act → World → Prop), K (a₁ k) W →
      assign.wpIn (Fence.wide.inRound l) (n - 1 - 1) Try.prog (Exit.then K (fun _ _ _ => False)) { tmps := (ps.zip (encs k)).foldl (fun t (p, v) => t.setIfInBounds p v) a.tmps, defers := [] } W)
    (hbody : ∀ (l : Nat) (k : Nat) (W : World), I k W → k < N → w.heap.size ≤ W.heap.size → body.wpIn (Fence.wide.inRound l) (n - 1 - 1) Try.prog (goesOn bo w.heap.size (I (k + 1)) W) (a₁ k) W)
    (hdone : ∀ (D : Nat) (W : World), w.heap.size ≤ D → I N W → W.heap[D]? = some (.deferred (some [])) → Q .normal { a with defers := { target := .collected D, args := #[] } :: a.defers } W) :
    (Code.rangeFunc g ps assign body).wpIn Fence.wide n Try.prog Q a w := by
  refine wpIn_rangeFunc ?_
  intro fn hfn
  obtain ⟨rec, hrec⟩ : ∃ rec : LoopState → Option Code → Loop, rec = fun st pe => { state := st, pending := pe, fn, tmps := a.tmps, params := ps, assign, body, defers := w.heap.size } := ⟨_, rfl⟩
  obtain ⟨W1, hW1⟩ : ∃ W1, (w.alloc (.deferred (some []))).alloc (.loop (rec .ready none)) = W1 := ⟨_, rfl⟩
  have hL1 : W1.heap[w.heap.size + 1]? = some (.loop (rec .ready none)) := by
    rw [← hW1]; have := World.alloc_heap_new (w.alloc (.deferred (some []))) (.loop (rec .ready none)); rwa [World.size_alloc] at this
  have hK1 : W1.heap[w.heap.size]? = some (.deferred (some [])) := by
    rw [← hW1]; exact (Below.heap_alloc _ _ _ (by simp)).trans (World.alloc_heap_new w _)
  have hb1 : Below w.heap.size w W1 := by
    rw [← hW1]; exact ((Below.refl _ w).alloc (Nat.le_refl _) _).alloc (by simp) _
  have hI1 : I 0 W1 := hIa _ _ _ h0 hb1
  refine ⟨w.heap.size + 1, [{ target := .collected w.heap.size, args := #[] }], W1, { target := .fn (.func gf) lb, args := #[.func (.yield (w.heap.size + 1)) #[] #[]] }, W1, gf,
    #[.func (.yield (w.heap.size + 1)) #[] #[]] ++ lb, W1, ?_, ?_, ?_, ?_, fun h => (by simp [wide_depth] at h), ?_⟩
  · rw [← hW1, hrec]; exact run_enterLoop_outer _ _ _ _ _
  · simp only [resolve, hg]
    simp [go_sem]
  · intro f' _; trivial
  · simp [invoke, go_sem, eg]
  · refine (hseq (w.heap.size + 1)
      (fun k W => I k W ∧ W.heap[w.heap.size + 1]? = some (.loop (rec .ready none)) ∧ W.heap[w.heap.size]? = some (.deferred (some [])))
      W1 hb1
      (fun k A B hs hb => ⟨hIa k A B hs.1 hb, (hb.block _ (Array.getElem?_eq_some_iff.1 hs.2.1).1).trans hs.2.1, (hb.block _ (Array.getElem?_eq_some_iff.1 hs.2.2).1).trans hs.2.2⟩)
      (fun k A v hs hc => ⟨hIs k A v hs.1 hc, (Below.heap_setCell A ⟨br, 0, none⟩ v _ (by simp; omega)).trans hs.2.1, (Below.heap_setCell A ⟨br, 0, none⟩ v _ (by simp; omega)).trans hs.2.2⟩)
      ?_ ⟨hI1, hL1, hK1⟩).mono ?_
    · -- ONE ROUND
      rintro k W ⟨hi, hl, hk⟩ hlen
      have hlt : w.heap.size + 1 < W.heap.size := (Array.getElem?_eq_some_iff.1 hl).1
      have hy := run_yield (P := Try.prog) (args := encs k) hl (by rw [hrec]; exact hps k)
      rw [hrec] at hy
      refine ⟨fn, _, assign, body, hy, roundIn_of_wpIn hfn (hassign _ k W _ ⟨_, run_beginRound hl (by rw [hrec]), ?_⟩)⟩
      obtain ⟨Wb, hWb⟩ : ∃ Wb, Wb = W.putObj (w.heap.size + 1) (.loop { rec .ready none with state := .busy }) := ⟨_, rfl⟩
      have hl2 : Wb.heap[w.heap.size + 1]? = some (.loop { rec .ready none with state := .busy }) := by rw [hWb]; exact World.putObj_heap_same hlt
      have hk2 : Wb.heap[w.heap.size]? = some (.deferred (some [])) := by rw [hWb]; exact (World.putObj_heap_other (by omega)).trans hk
      have hi2 : I k Wb := by rw [hWb]; exact hIp k W (w.heap.size + 1) _ _ hi (by omega) hl rfl
      have hw2 : Kb S W Wb := by rw [hWb]; exact Kb.put fun j hj e => by have := (hS j hj).1; omega
      have hs2 : W.heap.size = Wb.heap.size := by rw [hWb]; simp
      rw [← hWb]
      refine wpIn_mono (hbody _ k Wb hi2 hlen (by omega)) ?_
      rintro e a3 W3 hp
      cases e with
      | normal =>
        obtain ⟨ht, hi3⟩ := hp
        have hl3 := (ht.block _ (by omega) (by omega) (.inr ⟨_, hl2, rfl⟩)).trans hl2
        have hk3 := (ht.block _ (by omega) (by omega) (.inr ⟨_, hk2, rfl⟩)).trans hk2
        have hsz3 := ht.size
        have hr := run_endRound (P := Try.prog) none hl3
        rw [hrec] at hr
        refine ⟨_, _, hr, rfl, ⟨hIp _ _ _ _ _ hi3 (by omega) hl3 rfl, ?_, (World.putObj_heap_other (by omega)).trans hk3⟩, ?_⟩
        · rw [hrec]; exact World.putObj_heap_same (by omega)
        · exact (hw2.trans (ht.kb hS (by omega))).trans (Kb.put fun j hj e => by have := (hS j hj).1; omega)
      | ret => exact hp.elim
      | exit id => exact hp.elim
      | goto t => exact hp.elim
      | panic ch => exact hp.elim
      | outgrown => exact hp.elim
    · -- BEHIND THE ITERATOR
      rintro e W2 ⟨⟨v, rfl⟩, hi, hl, hk⟩
      exact ⟨none, _, by have := run_endLoop (P := Try.prog) hl (by rw [hrec]; simp); rw [hrec] at this; exact this, hdone _ _ (Nat.le_refl _) (hIp _ _ _ _ _ hi (by omega) hl rfl) ((World.putObj_heap_other (by omega)).trans hk)⟩
section
variable {o : Oper} {a : Act} {w w' : World} {n l : Nat} {next : Act → World → Prop} {Q : Exit → Act → World → Prop} {v : Value}
theorem wpListIn_selR (s : Nat) {ops : Array Oper} {rest : List Oper} {F : Fence} {op : Op} {t : TypeId} {p : String} {af : Array Edge} {g : Option (Nat × Bool)} (h : wpListIn F n Try.prog ops Q (⟨some s, op, t, p, af, g⟩ :: rest) a w) : wpListIn F n Try.prog ops Q (⟨some s, op, t, p, af, g⟩ :: rest) a w := h
theorem wpListIn_valR {ops : Array Oper} {rest : List Oper} (hg : o.guard = none) (hnc : ∀ c, o.op ≠ .defer c) (hrun : (execOp a.eval o).run Try.prog w = .ok (.value v) w') (h : wpListIn (Fence.wide.inRound l) n Try.prog ops Q rest (a.put o.dst v) w') : wpListIn (Fence.wide.inRound l) n Try.prog ops Q (o :: rest) a w :=
  wpListIn_plain hg fun _ hK => ⟨fun _ _ => trivial, by
    rw [show (Fence.wide.inRound l).round = some l from rfl, Oper.semAt_eq _ _ _ (fun c h => hnc c h), hrun]
    exact hK _ _ h⟩
end
section
variable {o : Oper} {a : Act} {w w' : World} {n : Nat} {Q : Exit → Act → World → Prop} {v : Value}
end
end Go.Proofs
namespace Go.Proofs
open Go.RowKit Go.Shelf Go.Proofs.Sm
attribute [local simp, local go_sem] wide_fn wide_depth
attribute [local go_sem] Oper.semAt_some
/-- the iterator's own number -/
structure FkSt (w0 wr : World) (br : Nat) (m : Nat) : Prop where
  below : Below w0.heap.size w0 wr
  cr : wr.heap[br]? = some (.cells #[.int .i64 (m : Int)] 3 (0, 0))
def FkS (w0 : World) (br : Nat) : Nat → Prop := fun k => k < w0.heap.size ∨ k = br
theorem FkSt.kb {w0 A B : World} {br m : Nat} (h : FkSt w0 A br m) (hk : Kb (FkS w0 br) A B) : FkSt w0 B br m :=
  ⟨⟨hk.1.trans h.below.os, hk.2.1.trans h.below.tape, hk.2.2.1.trans h.below.output, Nat.le_trans h.below.size hk.2.2.2.1, fun k hk' => (hk.2.2.2.2 k (.inl hk')).trans (h.below.block k hk')⟩, (hk.2.2.2.2 br (.inr rfl)).trans h.cr⟩
theorem FkSt.below' {w0 A B : World} {br m : Nat} (h : FkSt w0 A br m) (hb : Below A.heap.size A B) : FkSt w0 B br m :=
  ⟨h.below.trans (hb.mono h.below.size), (hb.block _ (Array.getElem?_eq_some_iff.1 h.cr).1).trans h.cr⟩
theorem FkSt.set {w0 A : World} {br m : Nat} (h : FkSt w0 A br m) (h0 : w0.heap.size ≤ br) (m' : Nat) : FkSt w0 (A.setCell ⟨br, 0, none⟩ (.int .i64 (m' : Int))) br m' := by
  have hne : ∀ k, k ≠ br → (A.setCell ⟨br, 0, none⟩ (.int .i64 (m' : Int))).heap[k]? = A.heap[k]? := fun k hk => Below.heap_setCell A ⟨br, 0, none⟩ _ k hk
  refine ⟨h.below.trans ⟨rfl, rfl, rfl, by simp [World.setCell], fun k hk => hne k (by omega)⟩, ?_⟩
  have := h.cr
  simp [World.setCell, Array.getElem?_modify, this]
def boxN (br : Nat) (w : World) : Nat := (intOf ((w.cell? ⟨br, 0, none⟩).getD undef)).toNat
theorem FkSt.boxN {w0 A : World} {br m : Nat} (h : FkSt w0 A br m) : boxN br A = m := by
  unfold Go.Proofs.boxN
  rw [(cell_of1 h.cr).1]
  rfl
theorem factF_step {m f : Nat} {L : List (Int × Int)} {k : Nat} (h : factF m f = L.drop k) (hm : 1 < m) (hf : m ≤ f) : ∃ f', factF (stripF (divN m) m 0 m).1 f' = L.drop (k + 1) ∧ (stripF (divN m) m 0 m).1 ≤ f' ∧ k < L.length ∧ L.getD k (0, 0) = (((divN m : Nat) : Int), (((stripF (divN m) m 0 m).2 : Nat) : Int)) := by
  obtain ⟨f', rfl⟩ : ∃ f', f = f' + 1 := ⟨f - 1, by omega⟩
  unfold factF at h
  rw [if_pos hm] at h
  have hk : k < L.length := by
    rcases Nat.lt_or_ge k L.length with h1 | h1
    · exact h1
    · rw [List.drop_eq_nil_of_le h1] at h; cases h
  rw [List.drop_eq_getElem_cons hk] at h
  injection h with h1 h2
  have := strip_lt2 hm
  exact ⟨f', h2, by omega, hk, by rw [List.getD_eq_getElem?_getD, List.getElem?_eq_getElem hk]; exact h1.symm⟩
theorem factF_end {m f : Nat} {L : List (Int × Int)} {k : Nat} (h : factF m f = L.drop k) (hm : ¬ 1 < m) (hk : k ≤ L.length) : k = L.length := by
  have h1 : factF m f = [] := by
    cases f with
    | zero => rfl
    | succ f => unfold factF; rw [if_neg hm]
  rw [h1] at h
  have := congrArg List.length h
  simp at this
  omega
def encF (L : List (Int × Int)) (k : Nat) : Array Value := #[.int .i64 (L.getD k (0, 0)).1, .int .i64 (L.getD k (0, 0)).2]
set_option maxRecDepth 100000 in
set_option maxHeartbeats 2000000 in
theorem walk79 (n l br : Nat) (J : Nat → World → Prop) (W w0 : World) (m0 : Nat) (L : List (Int × Int)) (f0 : Nat)
    (hst : FkSt w0 W br m0) (hbr : w0.heap.size ≤ br) (hm0 : m0 ≤ 1000000000) (hL : factF m0 f0 = L) (hf0 : m0 ≤ f0)
    (hJa : ∀ k A B, J k A → Below A.heap.size A B → J k B) (hJs : ∀ k A v, J k A → (A.cell? ⟨br, 0, none⟩).isSome = true → J k (A.setCell ⟨br, 0, none⟩ v))
    (hY : ∀ k W1, J k W1 → k < L.length → YieldAt Fence.wide (n - 1) Try.prog l (encF L k) W1 fun e W' => e = .returned (.bool true) ∧ J (k + 1) W' ∧ Kb (FkS w0 br) W1 W')
    (h0 : J 0 W) :
    CallsIn Fence.wide n Try.prog 79 #[.func (.yield l) #[] #[], .pointer (some ⟨br, 0, none⟩)] W fun e W' => (∃ v, e = .returned v) ∧ J L.length W' := by
  have HST := Lib.hid hst
  have HJA := Lib.hid hJa
  have HJS := Lib.hid hJs
  have HY := Lib.hid hY
  have H0 := Lib.hid (And.intro h0 hL)
  have HF0 := Lib.hid hf0
  clear hst hJa hJs hY h0 hL hf0
  gi_enter Try.func79, Try.ntmps79
  gi_wp2_with fail
  gi_loopw [3] (fun _ wr => ∃ k m f : Nat, k ≤ L.length ∧ m ≤ 1000000000 ∧ Hid (J k wr ∧ FkSt w0 wr br m ∧ factF m f = L.drop k ∧ m ≤ f)) (fun _ wr => boxN br wr)
  case atStart => exact ⟨0, m0, f0, by omega, hm0, Lib.hid ⟨H0.out.1, HST.out, H0.out.2, HF0.out⟩⟩
  case round =>
    obtain ⟨k, m, f, hk, hm, HI⟩ := hrel
    have hcr := (cell_of1 HI.out.2.1.cr).1
    have HBX := Lib.hid HI.out.2.1.boxN
    by_cases h1 : 1 < m
    · have h1' : (1 : Int) < (m : Int) := by omega
      obtain ⟨f', hf1, hf2, hkl, hen⟩ := factF_step HI.out.2.2.1 h1 HI.out.2.2.2
      obtain ⟨hpp, hpd⟩ := divN_spec (n := m) (by omega)
      have hlt2 := strip_lt2 h1
      have hdl := divN_le (n := m) (by omega)
      have HD := Lib.hid (divides69_any wr m hm)
      have HEN : Hid (encF L k = #[.int .i64 ((divN m : Nat) : Int), .int .i64 (((stripF (divN m) m 0 m).2 : Nat) : Int)]) := Lib.hid (by unfold encF; rw [hen])
      have HF := Lib.hid (And.intro hf1 hf2)
      have hp2 := hpp.1
      have HLT := Lib.hid hlt2
      clear hf1 hf2 hen hpp hpd hlt2
      obtain ⟨T, hT⟩ : ∃ T, T = stripF (divN m) m 0 m := ⟨_, rfl⟩
      rw [← hT] at HEN HF HLT
      have HT := Lib.hid hT.symm
      clear hT
      generalize divN m = p at *
      gi_wp2_with ((refine (callsIn_wide.2 HD.out).mono ?_); rintro e w1 ⟨rfl, q, rfl⟩)
      gi_loopw [4] (fun zk wr1 => ∃ x j g : Nat, zk = .int .i64 j ∧ 1 ≤ x ∧ x ≤ m ∧ j ≤ m ∧ j + x ≤ m ∧ Hid (J k wr1 ∧ FkSt w0 wr1 br x ∧ stripF p x j g = T ∧ x ≤ g)) (fun _ wr1 => boxN br wr1)
      case atStart => exact ⟨m, 0, m, rfl, by omega, by omega, by omega, by omega, Lib.hid ⟨HJA.out _ _ _ HI.out.1 (below_drewN (Below.refl _ _) _), HI.out.2.1.below' (below_drewN (Below.refl _ _) _), HT.out, Nat.le_refl _⟩⟩
      case round =>
        obtain ⟨x, j, g, rfl, hx1, hxm, hjm, hjx, HQ⟩ := hrel
        have hcx := (cell_of1 HQ.out.2.1.cr).1
        have hfx := (cell_of1 HQ.out.2.1.cr).2
        have HBX1 := Lib.hid HQ.out.2.1.boxN
        have hp0 : ((p : Int) == 0) = false := by simp; omega
        have hp0' : ((p : Int) != 0) = true := by simp; omega
        have hj0 : (0 : Int) ≤ (j : Int) := Int.natCast_nonneg _
        have hjb : (j : Int) ≤ 1000000000 := by omega
        have ht := tmod_nat x p
        have htd := tdiv_nat x p
        have hmd : x % p < p := Nat.mod_lt _ (by omega)
        have hpb : p ≤ 1000000000 := by omega
        have hwt : IntKind.i64.wrap ((x % p : Nat) : Int) = ((x % p : Nat) : Int) := IntWalk.i64_in _ (by omega)
        by_cases h0 : x % p = 0
        · obtain ⟨g', hg⟩ : ∃ g', g = g' + 1 := ⟨g - 1, by have := HQ.out.2.2.2; omega⟩
          have hst := HQ.out.2.2.1
          rw [hg] at hst
          unfold stripF at hst
          rw [if_pos h0] at hst
          have hl := strip_lt hx1 hp2
          have hps := strip_pos hx1 hp2 h0
          have hwd : IntKind.i64.wrap ((x / p : Nat) : Int) = ((x / p : Nat) : Int) := IntWalk.i64_in _ (by omega)
          have HN : Hid (J k (wr.setCell ⟨br, 0, none⟩ (.int .i64 ((x / p : Nat) : Int))) ∧ FkSt w0 (wr.setCell ⟨br, 0, none⟩ (.int .i64 ((x / p : Nat) : Int))) br (x / p) ∧ stripF p (x / p) (j + 1) g' = T ∧ x / p ≤ g') := Lib.hid ⟨HJS.out _ _ _ HQ.out.1 (by rw [hcx]; rfl), HQ.out.2.1.set hbr _, hst, by have := HQ.out.2.2.2; omega⟩
          have HBN := Lib.hid HN.out.2.1.boxN
          rw [h0] at ht hwt
          have ht0 : ((0 : Nat) : Int) = 0 := rfl
          rw [ht0] at ht hwt
          clear hst hg
          generalize x / p = y at *
          gi_wp2_with fail
          exact ⟨⟨y, j + 1, g', by go_num, hps, by omega, by omega, by omega, HN⟩, by rw [HBN.out, HBX1.out]; exact hl⟩
        · have hst : T = (x, j) := by
            have := HQ.out.2.2.1
            cases g with
            | zero => exact this.symm
            | succ g => unfold stripF at this; rw [if_neg h0] at this; exact this.symm
          have hne : (((x % p : Nat) : Int) == 0) = false := by simp; omega
          have hne2 : ((x % p : Nat) : Int) ≠ 0 := by omega
          have HX1 : Hid (T.1 = x) := Lib.hid (by rw [hst])
          have HX2 : Hid (T.2 = j) := Lib.hid (by rw [hst])
          obtain ⟨fn, tmps, assign, body, hy, hR⟩ := HY.out k wr HQ.out.1 hkl
          rw [HEN.out, HX2.out] at hy
          have HR := Lib.hid hR
          clear hst hR
          generalize x % p = y at *
          gi_wp2_with (refine HR.out.mono ?_; rintro e W2 ⟨rfl, hj, hkp⟩
                       have HS3 := Lib.hid (And.intro hj (HQ.out.2.1.kb hkp))
                       clear hj hkp)
          exact ⟨⟨k + 1, x, _, by omega, by omega, Lib.hid ⟨HS3.out.1, HS3.out.2, by rw [← HX1.out]; exact HF.out.1, by rw [← HX1.out]; exact HF.out.2⟩⟩, by rw [HBX.out, HS3.out.2.boxN, ← HX1.out]; exact HLT.out.1⟩
    · have h1' : ¬ (1 : Int) < (m : Int) := by omega
      have HE := Lib.hid (factF_end HI.out.2.2.1 h1 hk)
      gi_wp2_with fail
      go_end0
      exact ⟨⟨_, rfl⟩, by rw [← HE.out]; exact HI.out.1⟩
end Go.Proofs
namespace Go.Proofs
open Go.RowKit Go.Shelf Go.Proofs.Sm
attribute [local simp, local go_sem] wide_fn wide_depth
attribute [local go_sem] Oper.semAt_some
theorem factors64_any (w : World) (x : Int) : Calls Try.prog 64 #[.int .i64 x] w fun e w' => e = .returned (.func (.func 79) #[] #[.pointer (some ⟨w.heap.size, 0, none⟩)]) ∧ w' = w.alloc (.cells #[.int .i64 x] 3) := by
  go_enter Try.func64, Try.ntmps64
  go_wp2_with fail
  go_ret
  exact ⟨rfl, rfl⟩
/-- the factors, at most as many as n has bits: m * 2 ^ k ≤ n behind k of them -/
theorem factF_len2 : ∀ {f n k : Nat}, 1 ≤ n → n < 2 ^ (k + 1) → (factF n f).length ≤ k
  | 0, _, _, _, _ => Nat.zero_le _
  | f + 1, n, k, h0, h => by
    unfold factF
    by_cases h1 : 1 < n
    · rw [if_pos h1]
      obtain ⟨hp, hd⟩ := divN_spec (n := n) (by omega)
      obtain ⟨j, a, b, c, d⟩ := stripF_spec hp.1 (f := n) (n := n) (k := 0) (by omega) (Nat.le_refl _)
      have h2 := strip_lt2 h1
      have hj : 1 ≤ j := by have := h2.2.2; omega
      have h3 : 2 ≤ divN n ^ j := Nat.le_trans hp.1 (by
        have := Nat.pow_le_pow_right (show 0 < divN n by have := hp.1; omega) hj
        rwa [Nat.pow_one] at this)
      have h4 := Nat.mul_le_mul_left (stripF (divN n) n 0 n).1 h3
      rw [← b] at h4
      cases k with
      | zero => simp at h; omega
      | succ k =>
        have h5 : (stripF (divN n) n 0 n).1 < 2 ^ (k + 1) := by
          rw [Nat.pow_succ] at h
          omega
        have := factF_len2 (f := f) h2.2.1 h5
        simp only [List.length_cons]
        omega
    · rw [if_neg h1]
      exact Nat.zero_le _
theorem factN_len {n : Nat} (h : n ≤ 1000000000) : (factN n).length ≤ 29 := by
  rcases Nat.eq_zero_or_pos n with h0 | h0
  · subst h0
    exact Nat.zero_le _
  · exact factF_len2 h0 (Nat.lt_of_le_of_lt h (by decide))
/-- the list of the factors under way -/
structure FaSt (w : World) (B : Nat) (X : List Pr) (W : World) : Prop where
  below : Below w.heap.size w W
  out : ∃ A c, W.heap[w.heap.size]? = some (.cells #[.slice A X.length c] 53 (0, 0)) ∧ OwnP B W (.slice A X.length c) X
theorem FaSt.below' {w W W' : World} {B : Nat} {X : List Pr} (h : FaSt w B X W) (hb : Below W.heap.size W W') : FaSt w B X W' :=
  ⟨h.below.trans (hb.mono h.below.size), let ⟨A, c, h1, h2⟩ := h.out; ⟨A, c, (hb.block _ (Array.getElem?_eq_some_iff.1 h1).1).trans h1, owns_below h2 hb⟩⟩
theorem FaSt.other {w W W' : World} {B : Nat} {X : List Pr} (h : FaSt w B X W) (l : Nat) (h1 : w.heap.size < l) (he : W'.os = W.os ∧ W'.tape = W.tape ∧ W'.output = W.output ∧ W.heap.size ≤ W'.heap.size)
    (hk : ∀ k, k ≠ l → W'.heap[k]? = W.heap[k]?) (hl : l < B ∨ ∃ o : Obj, W.heap[l]? = some o ∧ o.isCells = false) : FaSt w B X W' := by
  refine ⟨h.below.trans ⟨he.1, he.2.1, he.2.2.1, he.2.2.2, fun k hk' => hk k (by omega)⟩, ?_⟩
  obtain ⟨A, c, h2, h3⟩ := h.out
  refine ⟨A, c, (hk _ (by omega)).trans h2, owns_keep h3 fun r hr => hk r fun e => ?_⟩
  obtain ⟨h4, C, h5⟩ := h3.block r hr
  rcases hl with hl | ⟨o, h6, h7⟩
  · omega
  · rw [e, h6] at h5; cases h5; cases h7
theorem FaSt.push {w W : World} {B : Nat} {X : List Pr} (h : FaSt w B X W) (hB : w.heap.size + 1 ≤ B) (hBW : B ≤ W.heap.size) (hX : X.length ≤ 1000000) (p : Pr) : ∃ A c A' c' W', W.cell? ⟨w.heap.size, 0, none⟩ = some (.slice A X.length c) ∧
    (Builtin.append_ #[53, 53] 53 #[.slice A X.length c, .slice (some ⟨W.heap.size, 0, none⟩) 1 1]).run Try.prog (W.alloc (.cells #[.int .i64 p.1, .int .i64 p.2] 56)) = .ok (.slice A' (X.length + 1) c') W' ∧
    (W'.cell? ⟨w.heap.size, 0, none⟩ = some (.slice A X.length c) ∧ W'.frozen? ⟨w.heap.size, 0, none⟩ = false) ∧
    Turned w.heap.size B W (W'.setCell ⟨w.heap.size, 0, none⟩ (.slice A' (X.length + 1) c')) ∧ FaSt w B (X ++ [p]) (W'.setCell ⟨w.heap.size, 0, none⟩ (.slice A' (X.length + 1) c')) := by
  obtain ⟨A, c, h1, h2⟩ := h.out
  obtain ⟨A', c', W', hr, ho, hg, hw⟩ := push_pr h2 p (by omega) hBW
  have hrow : ∀ r, (Value.slice A X.length c).ownBlock = some r → B ≤ r ∧ ∃ o : Obj, W.heap[r]? = some o ∧ o.isCells = true := fun r hr => by
    obtain ⟨h4, C, h5⟩ := h2.block r hr
    exact ⟨h4, _, h5, rfl⟩
  have hne : ∀ k, k < W.heap.size → k < B → W'.heap[k]? = W.heap[k]? := fun k hk hkB => hg.block k hk fun e => by have := (hrow k e.symm).1; omega
  have hwl := h.below.size
  have h1lt := (Array.getElem?_eq_some_iff.1 h1).1
  have h1' := (hne _ h1lt (by omega)).trans h1
  have hset : ∀ k, k ≠ w.heap.size → (W'.setCell ⟨w.heap.size, 0, none⟩ (.slice A' (X.length + 1) c')).heap[k]? = W'.heap[k]? := fun k hk => Below.heap_setCell W' ⟨w.heap.size, 0, none⟩ _ k hk
  refine ⟨A, c, A', c', W', (cell_of1 h1).1, hr, cell_of1 h1', (Turned.grown hg hrow).trans (Turned.set _), ?_, A', c', ?_, ?_⟩
  · have hsz := hg.size
    exact h.below.trans ⟨hg.os, hg.tape, hg.output, by simpa [World.setCell] using hsz, fun k hk => (hset k (by omega)).trans (hne k (by omega) (by omega))⟩
  · simp [World.setCell, Array.getElem?_modify, h1']
  · rw [List.length_append]
    refine owns_keep ho fun r hr' => hset r fun e => ?_
    obtain ⟨h4, C, h5⟩ := OwnP.block ho r hr'
    omega
theorem take_getD2 (L : List Pr) {k : Nat} (h : k < L.length) : L.take k ++ [L.getD k (0, 0)] = L.take (k + 1) := by
  rw [List.take_succ_eq_append_getElem h, List.getD_eq_getElem?_getD, List.getElem?_eq_getElem h]; rfl
/-- the activation at a round's body -/
def bare45 (b : Nat) (x : Int) (fv : Value) (p k : Int) : Act :=
  { tmps := #[.int .i64 x, undef, .slice none 0 0, .int .i64 0, .pointer (some ⟨b, 0, none⟩), .int .i64 p, .int .i64 k, .int .i64 x, .bool false, .bool false, .int .i64 x, .bool false, .bool false, .int .i64 x, fv, .int .i64 p, .int .i64 k, undef, undef, undef, undef, undef, undef, undef], defers := [] }
def FacsPost (L : List Pr) (w : World) (e : Ending) (w' : World) : Prop := ∃ A c, e = .returned (.tuple #[.slice A L.length c, .int .i64 0]) ∧ OwnP w.heap.size w' (.slice A L.length c) L ∧ Below w.heap.size w w'
set_option maxRecDepth 100000 in
set_option maxHeartbeats 4000000 in
theorem factors45_in (n : Nat) (w : World) (m : Nat) (h1 : 1 ≤ m) (h2 : m ≤ 1000000000) : CallsIn Fence.wide n Try.prog 45 #[.int .i64 (m : Int)] w (FacsPost (factN m) w) := by
  have hlen := factN_len h2
  have hd1 : ¬ (m : Int) < 1 := by omega
  have hd2 : ¬ (1000000000 : Int) < (m : Int) := by omega
  obtain ⟨L, hL⟩ : ∃ L, L = factN m := ⟨_, rfl⟩
  rw [← hL] at hlen ⊢
  have HL : Hid (factF m m = L) := Lib.hid hL.symm
  clear hL
  refine callsIn_of_wp_marks Try.func45 rfl trivial ?_ rfl
  simp only [Try.ntmps45, List.size_toArray, List.length_cons, List.length_nil, Nat.reduceAdd, Nat.reduceSub, Array.replicate_succ, Array.replicate_zero, List.push_toArray, List.append_toArray, List.nil_append, List.cons_append]
  gi_wp2_with ((refine (callsIn_wide.2 (factors64_any _ _)).mono ?_); rintro e w' ⟨rfl, rfl⟩)
  obtain ⟨W0, hW0⟩ : ∃ W0, (w.alloc (.cells #[.slice none 0 0] 53)).alloc (.cells #[.int .i64 (m : Int)] 3) = W0 := ⟨_, rfl⟩
  have hs0 : W0.heap.size = w.heap.size + 2 := by rw [← hW0]; simp
  have hb0 : Below w.heap.size w W0 := by rw [← hW0]; exact ((Below.refl _ w).alloc (Nat.le_refl _) _).alloc (by simp) _
  have ho0 : W0.heap[w.heap.size]? = some (.cells #[.slice none 0 0] 53 (0, 0)) := by rw [← hW0]; exact (Below.heap_alloc (w.alloc (.cells #[.slice none 0 0] 53)) _ _ (by simp)).trans (heap_alloc_new w _)
  have hr0 : W0.heap[w.heap.size + 1]? = some (.cells #[.int .i64 (m : Int)] 3 (0, 0)) := by rw [← hW0]; have := heap_alloc_new (w.alloc (.cells #[.slice none 0 0] 53)) (.cells #[.int .i64 (m : Int)] 3); rwa [World.size_alloc] at this
  have hst : FkSt w W0 (w.heap.size + 1) m := ⟨hb0, hr0⟩
  have hfa : FaSt w W0.heap.size [] W0 := ⟨hb0, none, 0, ho0, OwnP.nil _ _⟩
  rw [hW0]
  have HST := Lib.hid hst
  have HFA := Lib.hid hfa
  clear hW0 hb0 ho0 hr0 hst hfa
  refine wpIn_rangeWalk (gf := 79) (lb := #[.pointer (some ⟨w.heap.size + 1, 0, none⟩)]) rfl (enters_of Try.func79 (by kernel_rfl) rfl)
    (encs := encF L) (S := FkS w (w.heap.size + 1)) L.length w.heap.size (w.heap.size + 1) (by omega) (by omega) (fun k hk => by unfold FkS at hk; omega) (fun _ => rfl)
    (fun l J W hb hJa hJs hY h0 => walk79 (n - 1) l _ J W w m L m (HST.out.below' hb) (by omega) h2 HL.out (Nat.le_refl _) hJa hJs hY h0)
    (fun k W => FaSt w W0.heap.size (L.take k) W)
    (fun k A B h hb => h.below' hb) (fun k A v h hc => h.other (w.heap.size + 1) (by omega) ⟨rfl, rfl, rfl, by simp [World.setCell]⟩ (fun k hk => Below.heap_setCell A ⟨w.heap.size + 1, 0, none⟩ v k hk) (.inl (by omega)))
    (fun k A l o o' h hl ho hn => h.other l (by omega) ⟨rfl, rfl, rfl, by simp⟩ (fun k hk => World.putObj_heap_other hk) (.inr ⟨o, ho, hn⟩))
    HFA.out (fun k => bare45 w.heap.size m (.func (.func 79) #[] #[.pointer (some ⟨w.heap.size + 1, 0, none⟩)]) (L.getD k (0, 0)).1 (L.getD k (0, 0)).2) ?assign ?body ?done
  case assign =>
    rintro l k W K hK
    simp only [encF]
    gi_wp2_with (rw [Oper.semAt_eq _ _ _ (fun c h => by cases h)]; go_simp)
    exact hK
  case body =>
    rintro l k W hFA hk hsz
    have hlk : (L.take k).length = k := by rw [List.length_take]; omega
    obtain ⟨A, c, A', c', W3, hxc, happ, ⟨hyc, hyf⟩, htu, hrs⟩ := hFA.push (by omega) hsz (by omega) (L.getD k (0, 0))
    rw [take_getD2 L hk] at hrs
    rw [hlk] at hxc happ hyc htu hrs
    clear hlk
    have HAPP := Lib.hid happ
    have HTU := Lib.hid htu
    have HRS := Lib.hid hrs
    clear hFA happ htu hrs HL HST HFA
    generalize (L.getD k (0, 0)).1 = p at *
    generalize (L.getD k (0, 0)).2 = e at *
    simp only [bare45]
    gi_wp2_with (first
      | ((with_reducible refine wpListIn_selR 22 ?_); refine wpListIn_valR rfl (fun c h => by cases h) (r_app (.tmp 17) (.tmp 21) 53 rfl rfl rfl HAPP.out) ?_)
      | (rw [Oper.semAt_eq _ _ _ (fun c h => by cases h)]; go_simp))
    exact ⟨HTU.out, HRS.out⟩
  case done =>
    rintro D W hD hFA hDD
    rw [List.take_length] at hFA
    obtain ⟨A, c, ho, hown⟩ := hFA.out
    have hob := (cell_of1 ho).1
    have HRS := Lib.hid (And.intro hFA.below hown)
    have HDD := Lib.hid hDD
    clear hown ho hFA hDD HL HST HFA
    gi_wp2_with fail
    have hDD2 := HDD.out
    refine ⟨by simp, .inl ⟨_, _, rfl, run_takeDeferred hDD2, ?_⟩⟩
    refine ⟨_, results_tmp2 rfl _ _ _, ?_⟩
    have hkk : ∀ k, k ≠ D → (W.putObj D (.deferred none)).heap[k]? = W.heap[k]? := fun k hk => World.putObj_heap_other hk
    refine ⟨A, c, rfl, owns_base (owns_keep HRS.out.2 fun r hr' => hkk r fun e => ?_) (by omega), HRS.out.1.trans ⟨rfl, rfl, rfl, by simp, fun k hk => hkk k (by omega)⟩⟩
    obtain ⟨-, C, hC⟩ := OwnP.block HRS.out.2 r hr'
    rw [e, hDD2] at hC
    cases hC
theorem factors45_yes (w : World) (m : Nat) (h1 : 1 ≤ m) (h2 : m ≤ 1000000000) : Calls Try.prog 45 #[.int .i64 (m : Int)] w (FacsPost (factN m) w) := callsIn_wide.1 (factors45_in 0 w m h1 h2)
theorem factors45_no (w : World) (x : Int) (h : x < 1 ∨ 1000000000 < x) : Calls Try.prog 45 #[.int .i64 x] w fun e w' => e = .returned (.tuple #[.slice none 0 0, .int .i64 2]) ∧ w' = w := by
  by_cases h1 : x < 1
  · clear h
    go_enter Try.func45, Try.ntmps45
    go_wp2_with fail
    go_ret2
    exact ⟨rfl, rfl⟩
  · have h2 : (1000000000 : Int) < x := by omega
    clear h
    go_enter Try.func45, Try.ntmps45
    go_wp2_with fail
    go_ret2
    exact ⟨rfl, rfl⟩
end Go.Proofs
namespace Go.Proofs
open Go.Shelf Go.RowKit Go.Lib Go.Sort
theorem cmpI_bd (x y : Int) : -1 ≤ cmpI x y ∧ cmpI x y ≤ 1 := by unfold cmpI; split <;> (try split) <;> omega
set_option maxRecDepth 100000 in
set_option maxHeartbeats 16000000 in
theorem ascending47_any (W : World) (p q : Pr) : Calls Try.prog 47 #[.agg #[.int .i64 p.1, .int .i64 p.2], .agg #[.int .i64 q.1, .int .i64 q.2]] W fun e w' => e = .returned (.int .i64 (cfP p q)) ∧ Gr W w' := by
  obtain ⟨p1, p2⟩ := p
  obtain ⟨q1, q2⟩ := q
  have HC1 := Lib.hid fun W' => compare63_any W' p1 q1
  have HC2 := Lib.hid fun W' => compare63_any W' p2 q2
  have HR : Hid (cfP (p1, p2) (q1, q2) = if cmpI p1 q1 ≠ 0 then cmpI p1 q1 else cmpI p2 q2) := Lib.hid rfl
  have hb1 := cmpI_bd p1 q1
  have hb2 := cmpI_bd p2 q2
  generalize cfP (p1, p2) (q1, q2) = R at *
  generalize cmpI p1 q1 = a at *
  generalize cmpI p2 q2 = b at *
  have HOR : Hid (∀ (g : Nat) (X : World), X.heap[g]? = some (.cells #[.int .i64 a, .int .i64 b] 3 (0, 0)) → Calls Try.prog 67 #[.slice (some ⟨g, 0, none⟩) 2 2] X fun e w' => e = .returned (.int .i64 R) ∧ ∃ q, w' = X.drewN q) := Lib.hid fun g X hX => by
    rw [HR.out]
    exact or67_any _ _ a b (ints_two hX ⟨by omega, by omega⟩ ⟨by omega, by omega⟩)
  clear hb1 hb2
  simp only
  have HA : Hid (∀ o1 o2 : Obj, o1 = .cells #[.int .i64 p1, .int .i64 p2] 56 → o2 = .cells #[.int .i64 q1, .int .i64 q2] 56 → ((W.alloc o1).alloc o2).cell? ⟨W.heap.size, 0, none⟩ = some (.int .i64 p1) ∧ ((W.alloc o1).alloc o2).cell? ⟨W.heap.size, 1, none⟩ = some (.int .i64 p2) ∧ ((W.alloc o1).alloc o2).cell? ⟨W.heap.size + 1, 0, none⟩ = some (.int .i64 q1) ∧ ((W.alloc o1).alloc o2).cell? ⟨W.heap.size + 1, 1, none⟩ = some (.int .i64 q2) ∧ Gr W ((W.alloc o1).alloc o2)) := Lib.hid fun o1 o2 e1 e2 => by
    subst e1 e2
    have h1 : ((W.alloc (.cells #[.int .i64 p1, .int .i64 p2] 56)).alloc (.cells #[.int .i64 q1, .int .i64 q2] 56)).heap[W.heap.size]? = some (.cells #[.int .i64 p1, .int .i64 p2] 56 (0, 0)) := (Below.heap_alloc (W.alloc (.cells #[.int .i64 p1, .int .i64 p2] 56)) _ _ (by simp)).trans (heap_alloc_new W _)
    have h2 : ((W.alloc (.cells #[.int .i64 p1, .int .i64 p2] 56)).alloc (.cells #[.int .i64 q1, .int .i64 q2] 56)).heap[W.heap.size + 1]? = some (.cells #[.int .i64 q1, .int .i64 q2] 56 (0, 0)) := by
      have := heap_alloc_new (W.alloc (.cells #[.int .i64 p1, .int .i64 p2] 56)) (.cells #[.int .i64 q1, .int .i64 q2] 56)
      rwa [World.size_alloc] at this
    exact ⟨by rw [cell_of_row _ _ _ _ _ _ h1]; rfl, by rw [cell_of_row _ _ _ _ _ _ h1]; rfl, by rw [cell_of_row _ _ _ _ _ _ h2]; rfl, by rw [cell_of_row _ _ _ _ _ _ h2]; rfl, ((Gr.refl W).alloc _).alloc _⟩
  go_enter Try.func47, Try.ntmps47
  go_wp2_with fail
  obtain ⟨z1, z2, z3, z4, hG⟩ := HA.out _ _ rfl rfl
  have HG := Lib.hid hG
  clear hG HA
  generalize (W.alloc (.cells #[.int .i64 p1, .int .i64 p2] 56)).alloc (.cells #[.int .i64 q1, .int .i64 q2] 56) = W2 at *
  go_region_held3 (fun w' => w'.cell? ⟨W.heap.size, 0, none⟩ = some (.int .i64 p1) ∧ w'.cell? ⟨W.heap.size, 1, none⟩ = some (.int .i64 p2) ∧ w'.cell? ⟨W.heap.size + 1, 0, none⟩ = some (.int .i64 q1) ∧ w'.cell? ⟨W.heap.size + 1, 1, none⟩ = some (.int .i64 q2)) (first | assumption | (exact ⟨z1, z2, z3, z4⟩) | go_keep)
    (first
      | (go_at_call 63; (with_reducible refine (HC1.out _).mono ?_); rintro e w' ⟨rfl, rfl⟩)
      | (go_at_call 63; (with_reducible refine (HC2.out _).mono ?_); rintro e w' ⟨rfl, rfl⟩)
      | (go_at_call 67; (refine (HOR.out _ (W2.alloc (.cells #[.int .i64 a, .int .i64 b] 3)).drew (heap_alloc_new W2 _)).mono ?_); rintro e w' ⟨rfl, q, rfl⟩))
  all_goals
    go_wp2_with fail
    go_ret
    exact ⟨rfl, by repeat (first | exact HG.out | apply Gr.drewN | apply Gr.drew | apply Gr.alloc)⟩
theorem cmpLays47 (blk off size : Nat) (w : World) : CmpLays Try.prog 47 #[] pcell 2 cfP blk off size w :=
  fun _ _ _ _ x y => ascending47_any _ x y
theorem flatK_get (ps : List Pr) : flatK pcell 2 ps.toArray = (pcells ps).toArray := by
  refine ext_get! (by simp [pcells_length]) fun t ht => ?_
  have ht' : t < ps.length * 2 := by simpa using ht
  rw [get_flatK _ _ _ t (by simpa using ht')]
  have hj : t / 2 < ps.length := by omega
  obtain ⟨g1, g2⟩ := pcells_get ps (t / 2) hj
  have he : ps.toArray[t / 2]! = ps.getD (t / 2) (0, 0) := by simp [List.getD_eq_getElem?_getD, hj]
  rw [he]
  have hl : t < (pcells ps).length := by rw [pcells_length]; exact ht'
  have hr : (pcells ps).toArray[t]! = (pcells ps)[t] := by simp [hl]
  rw [hr]
  have hm : t % 2 = 0 ∨ t % 2 = 1 := by omega
  rcases hm with hm | hm
  · have : t / 2 * 2 = t := by omega
    rw [this] at g1
    rw [List.getElem?_eq_getElem hl] at g1
    rw [Option.some.inj g1, hm]
    rfl
  · have : t / 2 * 2 + 1 = t := by omega
    rw [this] at g2
    rw [List.getElem?_eq_getElem hl] at g2
    rw [Option.some.inj g2, hm]
    rfl
theorem heap_sortedW {w : World} {g n : Nat} {os : Array Obj} {cur : Array Value} {e : TypeId} {fr : Nat × Nat} (F : Array Value) (hb : w.heap[g]? = some (.cells cur e fr)) :
    (grow (putRow id (Sort.ahead w n) g 0 F) os).heap[g]? = some (.cells (putCells id 0 F cur) e fr) := by
  have hg : g < w.heap.size := (Array.getElem?_eq_some_iff.1 hb).1
  rw [heap_grow_old _ _ (by simpa using hg)]
  simp [putRow, mapBlock, Sort.ahead, Array.getElem?_modify, hb, onCells]
theorem grownBy_sortedW {w : World} {g n : Nat} {os : Array Obj} (F : Array Value) : w.grownBy (grow (putRow id (Sort.ahead w n) g 0 F) os) (some g) := by
  refine ⟨rfl, rfl, rfl, by simp, fun k hk hne => ?_⟩
  rw [heap_grow_old _ _ (by simpa using hk)]
  have : g ≠ k := fun e => hne (by rw [e])
  simp [putRow, mapBlock, Sort.ahead, Array.getElem?_modify, this]
theorem take_putCellsW (cur : Array Value) (ts : List Value) (h : ts.length ≤ cur.size) : (putCells id 0 ts.toArray cur).toList.take ts.length = ts := by
  apply List.ext_getElem?
  intro j
  by_cases hj : j < ts.length
  · rw [List.getElem?_take_of_lt hj, Array.getElem?_toList]
    simp [putCells, hj, show j < cur.size by omega]
  · rw [List.getElem?_take_eq_none (by omega), List.getElem?_eq_none (by omega)]
theorem isAgg56 (w : World) : (isAgg 56).run Try.prog w = .ok true w := by kernel_rfl
theorem sizeOf56 (w : World) : (Go.sizeOf 56).run Try.prog w = .ok 2 w := by kernel_rfl
theorem list_of_sorted {ps : List Pr} {d' : Array Pr} (hp : PermIn 0 ps.toArray.size ps.toArray d') (hs : SortedIn (ltOf cfP) 0 ps.toArray.size d') : d' = (sortP ps).toArray := by
  obtain ⟨h1, -, h3⟩ := hp
  have e1 : (d'.extract 0 ps.toArray.size).toList = d'.toList := by rw [← h1, Array.extract_size]
  have e2 : (ps.toArray.extract 0 ps.toArray.size).toList = ps := by simp
  rw [e1, e2] at h3
  have hpw : d'.toList.Pairwise fun a b => leP a b = true := by
    rw [List.pairwise_iff_getElem]
    intro i j hi hj hij
    have hi' : i < d'.size := by simpa using hi
    have hj' : j < d'.size := by simpa using hj
    have h4 := hs i j (Nat.zero_le _) hij (by rw [← h1]; exact hj')
    rw [ltP, getElem!_pos d' i hi', getElem!_pos d' j hj'] at h4
    have h5 : d'.toList[i] = d'[i] := by simp
    have h6 : d'.toList[j] = d'[j] := by simp
    rw [h5, h6]
    unfold leP
    rw [decide_eq_true_iff]
    have := of_decide_eq_false h4
    omega
  have := sortP_unique h3 hpw
  rw [← this]
def SortPost (base : Nat) (v : Value) (ps : List Pr) (w : World) (e : Ending) (w' : World) : Prop := e = .returned (.tuple #[]) ∧ OwnP base w' v (sortP ps) ∧ Below base w w'
theorem sort46_some (base : Nat) (w : World) (g cap : Nat) (ps : List Pr) (h : OwnP base w (.slice (some ⟨g, 0, none⟩) ps.length cap) ps) (hl : ps.length ≤ 1000000) : Calls Try.prog 46 #[.slice (some ⟨g, 0, none⟩) ps.length cap, .func (.func 47) #[] #[]] w (SortPost base (.slice (some ⟨g, 0, none⟩) ps.length cap) ps w) := by
  obtain ⟨hlen, ho⟩ := h
  rcases ho with ⟨e, -⟩ | ⟨g', cap', cur, e, hb, hC, h1, hm, hs, ht⟩
  · cases e
  · injection e with e1 e2 e3
    injection e1 with e1
    injection e1 with e1
    subst e1 e3
    have hg : g < w.heap.size := (Array.getElem?_eq_some_iff.1 hC).1
    have eg : ∀ args w, (callFunc 47 args).run Try.prog w = .ok (.enter 47 args) w := enters_of Try.func47 (by kernel_rfl) rfl
    have hH : HoldsK pcell 2 w g 0 ps.toArray := by
      unfold HoldsK
      rw [flatK_get]
      intro j hj
      have hj' : j < (pcells ps).length := by simpa using hj
      refine ⟨?_, by simp [World.frozen?, hC]⟩
      have h5 : (cur.toList.take (ps.length * 2))[j]? = (pcells ps)[j]? := by rw [ht]
      rw [List.getElem?_take, if_pos (by rw [← pcells_length]; exact hj')] at h5
      rw [Nat.zero_add, cell_of_row _ _ _ _ _ _ hC]
      have : (pcells ps).toArray[j]! = (pcells ps)[j] := by simp [hj']
      rw [this, id, ← List.getElem?_eq_getElem hj', ← h5]
      simp
    have hcon := AnyQ.slices_SortFunc Try.sortP 2 isAgg56 sizeOf56 pcell (fun _ => rfl) (fun x v hv => by simp [pcell] at hv; rcases hv with rfl | rfl <;> rfl) cfP swoP 47 #[] g 0 cap ps.toArray w eg (cmpLays47 g 0 ps.toArray.size w) hH hg (by simp; omega)
    have hcon2 : Calls Try.prog 46 #[.slice (some ⟨g, 0, none⟩) ps.length cap, .func (.func 47) #[] #[]] w _ := hcon
    refine hcon2.mono ?_
    rintro e w' ⟨rfl, d', n, os, hp, hsd, rfl⟩
    rw [list_of_sorted hp hsd]
    have hsl := sortP_length ps
    have hpl : (pcells (sortP ps)).length = ps.length * 2 := by rw [pcells_length, hsl]
    unfold sortWorldK putRowK
    rw [flatK_get]
    refine ⟨rfl, ⟨by rw [pcells_length], .inr ⟨g, cap, _, by rw [hsl], hb, heap_sortedW _ hC, by rw [hsl]; exact h1, hm, by simp [putCells, hs], ?_⟩⟩, ?_⟩
    · rw [hsl, ← hpl]
      exact take_putCellsW cur _ (by rw [hpl, hs]; omega)
    · exact (Below.refl base w).grown (grownBy_sortedW _) (Nat.le_trans hb (Nat.le_of_lt hg)) fun r hr => by cases hr; exact hb
end Go.Proofs
namespace Go.Proofs
open Go.Shelf Go.RowKit Go.Lib Go.Sort
theorem insertion80_nil (w : World) (c : Nat) : Calls Try.prog 80 #[.slice none 0 c, .int .i64 0, .int .i64 0, .func (.func 47) #[] #[]] w fun e w' => e = .returned (.tuple #[]) ∧ ∃ q, w' = w.drewN q := by
  go_enter Try.func80, Try.ntmps80
  go_wp2_with fail
  go_loopw [8] (fun z wr => z = .int .i64 1 ∧ ∃ q, wr = w.drewN q) (fun _ _ => 0)
  case atStart => exact ⟨rfl, 0, rfl⟩
  case round =>
    obtain ⟨rfl, q, rfl⟩ := hrel
    go_wp2_with fail
    go_end0
    exact ⟨rfl, _, rfl⟩
theorem pdq65_nil (w : World) (c : Nat) : Calls Try.prog 65 #[.slice none 0 c, .int .i64 0, .int .i64 0, .int .i64 0, .func (.func 47) #[] #[]] w fun e w' => e = .returned (.tuple #[]) ∧ ∃ q, w' = w.drewN q := by
  have HI := Lib.hid fun W => insertion80_nil W c
  go_enter Try.func65, Try.ntmps65
  go_wp2_with fail
  go_loopw [1, 2] (fun za zb wr => za = .int .i64 0 ∧ zb = .int .i64 0 ∧ ∃ q, wr = w.drewN q) (fun _ _ _ => 0)
  case atStart => exact ⟨rfl, rfl, 0, rfl⟩
  case round =>
    obtain ⟨rfl, rfl, q, rfl⟩ := hrel
    go_wp2_with (go_at_call 80; (refine (HI.out _).mono ?_); rintro e w' ⟨rfl, q, rfl⟩)
    exact bodyPost_ret (v := .tuple #[]) (results_none rfl _ _ _) rfl ⟨rfl, by first | exact ⟨_, rfl⟩ | exact ex_drewN⟩
theorem sort46_nil (w : World) (c : Nat) : Calls Try.prog 46 #[.slice none 0 c, .func (.func 47) #[] #[]] w fun e w' => e = .returned (.tuple #[]) ∧ ∃ q, w' = w.drewN q := by
  have hb : Calls Try.prog 66 #[.int .u64 0] w fun e w' => e = .returned (.int .i64 0) ∧ w' = w := Any.bits_Len (SlLaysF0.n15.bits (P := Try.prog) (ρ := Try.sortP_ren) { Try.sortP with }) 0 w (by omega) (by omega)
  have HB := Lib.hid hb
  have HP := Lib.hid fun W => pdq65_nil W c
  clear hb
  go_enter Try.func46, Try.ntmps46
  go_wp2_with (first
    | (go_at_call 66; (refine HB.out.mono ?_); rintro e w' ⟨rfl, rfl⟩)
    | (go_at_call 65; (refine (HP.out _).mono ?_); rintro e w' ⟨rfl, q, rfl⟩))
  go_end0
  exact ⟨rfl, _, rfl⟩
theorem sortP_nil : sortP [] = [] := List.length_eq_zero_iff.1 (by rw [sortP_length]; rfl)
theorem sort46_any (base : Nat) (w : World) (v : Value) (ps : List Pr) (h : OwnP base w v ps) (hl : ps.length ≤ 1000000) : Calls Try.prog 46 #[v, .func (.func 47) #[] #[]] w (SortPost base v ps w) := by
  rcases h.2 with ⟨rfl, h0⟩ | ⟨g, cap, cur, rfl, -⟩
  · obtain rfl : ps = [] := List.length_eq_zero_iff.1 h0
    refine (sort46_nil w 0).mono fun e w' ⟨h1, q, h2⟩ => ⟨h1, ?_, by rw [h2]; exact below_drewN (Below.refl _ _) q⟩
    rw [sortP_nil]
    exact OwnP.nil _ _
  · exact sort46_some base w g cap ps h hl
end Go.Proofs
