/- Rows of the call's own that grow; a list of numbers in one block; cayleyref18.Complete; Equality of tables and words; a copy by append; slices.Clone; letter; Words and Schreier systems, plainly; word.Reduce and cayleyref02.Reduce. -/
import Derived.Test.YtcfighimnkfmeaaQ2
import Derived.WalkMore
namespace Go.Proofs
open Go.RowKit Go.Shelf Go.Proofs.Ct

/-- block b holds the numbers x (and may be longer) -/
def XsAt (w : World) (b : Nat) (x : List Int) : Prop := ∃ C : Array Value, w.heap[b]? = some (.cells C 3 (0, 0)) ∧ x.length ≤ C.size ∧ ∀ k, k < x.length → C[k]? = some (.int .i64 (x.getD k 0))
theorem getD_set {α : Type} {d : α} (l : List α) (k j : Nat) (v : α) : (l.set k v).getD j d = if k = j ∧ k < l.length then v else l.getD j d := by
  rw [List.getD_eq_getElem?_getD, List.getElem?_set, List.getD_eq_getElem?_getD]
  by_cases h : k = j
  · subst h
    by_cases h2 : k < l.length <;> simp [h2]
  · simp [h]
section
variable {w w' : World} {b k : Nat} {x y : List Int}
theorem XsAt.lt (h : XsAt w b x) : b < w.heap.size := by obtain ⟨C, hC, -⟩ := h; exact (Array.getElem?_eq_some_iff.1 hC).1
theorem XsAt.keep (h : XsAt w b x) (hk : w'.heap[b]? = w.heap[b]?) : XsAt w' b x := by
  obtain ⟨C, hC, h2, h3⟩ := h
  exact ⟨C, hk.trans hC, h2, h3⟩
theorem XsAt.below (h : XsAt w b x) (hb : Below w.heap.size w w') : XsAt w' b x := h.keep (hb.block _ h.lt)
theorem XsAt.grown {row : Option Nat} (h : XsAt w b x) (hg : w.grownBy w' row) (hr : row ≠ some b) : XsAt w' b x := h.keep (hg.block _ h.lt (Ne.symm hr))
theorem XsAt.cell (h : XsAt w b x) (hk : k < x.length) : w.cell? ⟨b, k, none⟩ = some (.int .i64 (x.getD k 0)) := by
  obtain ⟨C, hC, -, h3⟩ := h
  rw [cell_of_row _ _ _ _ _ _ hC]; exact h3 k hk
theorem XsAt.frozen (h : XsAt w b x) (k : Nat) : w.frozen? ⟨b, k, none⟩ = false := by
  obtain ⟨C, hC, -⟩ := h
  simp [World.frozen?, hC]
theorem XsAt.set (h : XsAt w b x) (hk : k < x.length) (v : Int) : XsAt (w.setCell ⟨b, k, none⟩ (.int .i64 v)) b (x.set k v) := by
  obtain ⟨C, hC, h2, h3⟩ := h
  refine ⟨C.setIfInBounds k (.int .i64 v), by simp [World.setCell, Array.getElem?_modify, hC], by simpa using h2, fun j hj => ?_⟩
  have hj' : j < x.length := by simpa using hj
  rw [getD_set]
  by_cases e : k = j
  · subst e
    rw [if_pos ⟨rfl, hk⟩]
    have : k < C.size := by omega
    simp [this]
  · rw [if_neg (fun hh => e hh.1), Array.getElem?_setIfInBounds_ne e]
    exact h3 j hj'
theorem XsAt.ints (h : XsAt w b x) {n cap : Nat} (hn : x.length = n) (hc : n ≤ cap) (hm : cap ≤ 9223372036854775807) (hf : Fits x) : IntsAt w (.slice (some ⟨b, 0, none⟩) n cap) x := by
  refine ⟨⟨_, n, cap, rfl, by simp [_root_.Go.Proofs.ints, hn], hc, by simpa [maxLen] using hm, fun _ => ⟨b, 0, rfl, fun j v hv => ?_⟩⟩, hf⟩
  have hj : j < x.length := by have := (List.getElem?_eq_some_iff.1 hv).1; simpa [_root_.Go.Proofs.ints] using this
  rw [Nat.zero_add, h.cell hj, ← hv]
  simp [_root_.Go.Proofs.ints, hj, List.getD_eq_getElem?_getD]
theorem grown_setCell (w : World) (b k : Nat) (v : Value) : w.grownBy (w.setCell ⟨b, k, none⟩ v) (some b) :=
  ⟨rfl, rfl, rfl, by simp [World.setCell], fun i _ hne => Below.heap_setCell w ⟨b, k, none⟩ v i (fun e => hne (by rw [e]))⟩
end

/-- rows of the call's own, in type t with elements of type e -/
structure OutSt (e : TypeId) (F : Nat → Prop) (w0 wr : World) (vout : Value) (rows : List (List Int)) : Prop where
  below : Below w0.heap.size w0 wr
  out : OwnT e w0.heap.size F wr vout rows
  fs : ∀ k, F k → w0.heap.size ≤ k ∧ k < wr.heap.size ∧ ∃ C, wr.heap[k]? = some (.cells C 3 (0, 0))
structure OutSt2 (e : TypeId) (F : Nat → Prop) (w0 wr : World) (vout vr : Value) (rows : List (List Int)) (x : List Int) : Prop where
  st : OutSt e F w0 wr vout rows
  row : OwnI w0.heap.size wr vr x
  ap : ∀ r, vr.ownBlock = some r → ¬ F r
theorem OutSt.nil (e : TypeId) {w0 wr : World} (h : Below w0.heap.size w0 wr) : OutSt e (fun _ => False) w0 wr (.slice none 0 0) [] :=
  ⟨h, ⟨[], World.ownsRow_nil _ _ _ _, RowsF.nil _ _⟩, fun _k hk => hk.elim⟩
theorem OutSt.row_nil {e : TypeId} {F : Nat → Prop} {w0 wr : World} {vout : Value} {rows : List (List Int)} (h : OutSt e F w0 wr vout rows) : OutSt2 e F w0 wr vout (.slice none 0 0) rows [] :=
  ⟨h, World.ownsRow_nil _ _ _ _, fun r hr => by cases hr⟩
theorem OutSt.grown {e : TypeId} {F : Nat → Prop} {w0 wr w' : World} {vout : Value} {rows : List (List Int)} {row : Option Nat} (h : OutSt e F w0 wr vout rows) (hg : wr.grownBy w' row)
    (h0 : ∀ r, row = some r → w0.heap.size ≤ r ∧ ¬ F r ∧ vout.ownBlock ≠ some r) : OutSt e F w0 w' vout rows := by
  have hub := h.out.block
  refine ⟨h.below.grown hg h.below.size (fun k hk => (h0 k hk).1), h.out.keep (fun r hr => ?_) (Ag.grown hg fun k hk => ⟨(h.fs k hk).2.1, fun e => (h0 _ e).2.1 hk⟩) (fun _ h => h), fun k hk => ?_⟩
  · obtain ⟨-, C, hC⟩ := hub r hr
    exact hg.block r (Array.getElem?_eq_some_iff.1 hC).1 (fun e => (h0 r e.symm).2.2 hr)
  · obtain ⟨h1, h2, C, hC⟩ := h.fs k hk
    exact ⟨h1, Nat.lt_of_lt_of_le h2 hg.size, C, grown_cells hg hC (fun e => (h0 _ e).2.1 hk)⟩
theorem OutSt.below' {e : TypeId} {F : Nat → Prop} {w0 wr w' : World} {vout : Value} {rows : List (List Int)} (h : OutSt e F w0 wr vout rows) (hb : Below wr.heap.size wr w') : OutSt e F w0 w' vout rows :=
  h.grown (row := none) ⟨hb.os, hb.tape, hb.output, hb.size, fun k hk _ => hb.block k hk⟩ (fun r hr => by cases hr)
theorem OutSt2.below' {e : TypeId} {F : Nat → Prop} {w0 wr w' : World} {vout vr : Value} {rows : List (List Int)} {x : List Int} (h : OutSt2 e F w0 wr vout vr rows x) (hb : Below wr.heap.size wr w') : OutSt2 e F w0 w' vout vr rows x :=
  ⟨h.st.below' hb, owns_below h.row hb, h.ap⟩
/-- a row that another call laid joins -/
theorem OutSt.with_row {e : TypeId} {F : Nat → Prop} {w0 wr w' : World} {vout vr : Value} {rows : List (List Int)} {x : List Int} (h : OutSt e F w0 wr vout rows) (hb : Below wr.heap.size wr w') (hr : OwnI wr.heap.size w' vr x) : OutSt2 e F w0 w' vout vr rows x :=
  ⟨h.below' hb, owns_base hr h.below.size, fun r hr' hF => by
    have h1 := (owns_block hr r hr').1
    have h2 := (h.fs r hF).2.1
    omega⟩
theorem OutSt2.add {e : TypeId} (he : e ≠ 3) (t : TypeId) (ht : Try.prog.underlying t = some (.slice 3)) {F : Nat → Prop} {w0 wr : World} {vout vr : Value} {rows : List (List Int)} {x : List Int} (h : OutSt2 e F w0 wr vout vr rows x) (z : Int) (hx : x.length ≤ 1000000) :
    ∃ A' c' w', (Builtin.append_ #[t, t] t #[vr, .slice (some ⟨wr.heap.size, 0, none⟩) 1 1]).run Try.prog (wr.alloc (.cells #[.int .i64 z] 3)) = .ok (.slice A' (x.length + 1) c') w' ∧ OutSt2 e F w0 w' vout (.slice A' (x.length + 1) c') rows (x ++ [z]) := by
  obtain ⟨A', c', w', hr, ho, hg, hw⟩ := push_int t t ht wr w0.heap.size vr x h.row z (by omega) h.st.below.size
  have hrb := owns_block h.row
  have hst : OutSt e F w0 w' vout rows := h.st.grown hg fun r hr => by
    obtain ⟨h1, C, hC⟩ := hrb r hr
    refine ⟨h1, h.ap r hr, fun e' => ?_⟩
    obtain ⟨-, C', hC'⟩ := h.st.out.block r e'
    rw [hC] at hC'
    injection hC' with h5
    injection h5 with _ h6 _
    exact he h6.symm
  refine ⟨A', c', w', hr, hst, ho, fun r hr => ?_⟩
  rcases hw with hw | ⟨r', hr', hge⟩
  · rw [hw] at hr
    exact h.ap r hr
  · have e : r' = r := by rw [hr'] at hr; exact Option.some.inj hr
    subst e
    exact fun e => absurd (h.st.fs _ e).2.1 (by omega)
theorem OutSt2.done {t e : TypeId} (he : e ≠ 3) (ht : Try.prog.underlying t = some (.slice e)) (hi : ∃ i, Try.prog.info? e = some i ∧ i.zero = some (.slice none 0 0) ∧ i.size = 1 ∧ i.bytes = 24) {F : Nat → Prop} {w0 wr : World} {vout : Value} {A : Option Addr} {n c : Nat} {rows : List (List Int)} {x : List Int} (h : OutSt2 e F w0 wr vout (.slice A n c) rows x) (hf : Fits x) (hl : rows.length ≤ 1000000) :
    ∃ A' c' w', (Builtin.append_ #[t, t] t #[vout, .slice (some ⟨wr.heap.size, 0, none⟩) 1 1]).run Try.prog (wr.alloc (.cells #[.slice A n c] e)) = .ok (.slice A' (rows.length + 1) c') w' ∧
      OutSt e (fun k => F k ∨ (Value.slice A n c).ownBlock = some k) w0 w' (.slice A' (rows.length + 1) c') (rows ++ [x]) := by
  have hub := h.st.out.block
  have hrb := owns_block h.row
  have hne : ∀ {k : Nat} {C : Array Value} {fr : Nat × Nat}, wr.heap[k]? = some (.cells C 3 fr) → vout.ownBlock ≠ some k := fun {k C fr} hc e' => by
    obtain ⟨-, C', hC'⟩ := hub k e'
    rw [hc] at hC'
    injection hC' with h5
    injection h5 with _ h6 _
    exact he h6.symm
  have hF2 : ∀ k, (F k ∨ (Value.slice A n c).ownBlock = some k) → k < wr.heap.size ∧ vout.ownBlock ≠ some k := fun k hk => by
    rcases hk with hk | hk
    · obtain ⟨h1, h2, C, hC⟩ := h.st.fs k hk
      exact ⟨h2, hne hC⟩
    · obtain ⟨h1, C, hC⟩ := hrb k hk
      exact ⟨(Array.getElem?_eq_some_iff.1 hC).1, hne hC⟩
  obtain ⟨A', c', w', hr, ho', hg, hw⟩ := push_row (ty := t) ht hi wr w0.heap.size (fun k => F k ∨ (Value.slice A n c).ownBlock = some k) vout rows (h.st.out.keep (fun _ _ => rfl) (Ag.refl _ _) (fun k hk => .inl hk)) A n c x ((IntsF.of_own h.row hf).mono fun k hk => .inr hk) hF2 (by omega) h.st.below.size
  refine ⟨A', c', w', hr, ⟨h.st.below.grown hg h.st.below.size (fun k hk => (hub k hk).1), ho', fun k hk => ?_⟩⟩
  have h2 := (hF2 k hk).1
  rcases hk with hk | hk
  · obtain ⟨h1, _, C, hC⟩ := h.st.fs k hk
    exact ⟨h1, Nat.lt_of_lt_of_le h2 hg.size, C, grown_cells hg hC (hne hC)⟩
  · obtain ⟨h1, C, hC⟩ := hrb k hk
    exact ⟨h1, Nat.lt_of_lt_of_le h2 hg.size, C, grown_cells hg hC (hne hC)⟩

theorem complete_true {t : Tb} (h : ∀ r, r < t.length → ∀ c, c < (t.row r).length → (t.row r).getD c 0 ≠ -1) : complete t = true := by
  unfold complete
  rw [Bool.not_eq_true', List.any_eq_false]
  intro row hrow
  obtain ⟨r, hr, rfl⟩ := List.mem_iff_getElem.1 hrow
  have e : t.row r = t[r] := by unfold Tb.row; rw [List.getD_eq_getElem?_getD, List.getElem?_eq_getElem hr]; rfl
  simp only [List.contains_iff_mem]
  intro hm
  obtain ⟨c, hc, he⟩ := List.mem_iff_getElem.1 hm
  have := h r hr c (by rw [e]; exact hc)
  rw [e, List.getD_eq_getElem?_getD, List.getElem?_eq_getElem hc] at this
  exact this he
theorem complete_false {t : Tb} {r c : Nat} (hr : r < t.length) (hc : c < (t.row r).length) (h : (t.row r).getD c 0 = -1) : complete t = false := by
  unfold complete
  rw [Bool.not_eq_false', List.any_eq_true]
  refine ⟨_, row_of_mem hr, ?_⟩
  rw [List.contains_iff_mem, ← h, List.getD_eq_getElem?_getD, List.getElem?_eq_getElem hc]
  exact List.getElem_mem hc
theorem complete_pos {t : Tb} (h : complete t = true) : ∀ r, r < t.length → ∀ c, c < (t.row r).length → (t.row r).getD c 0 ≠ -1 := fun r hr c hc e => by
  rw [complete_false hr hc e] at h
  cases h

set_option maxRecDepth 100000 in
set_option maxHeartbeats 1000000 in
theorem complete46_any (w : World) (v : Value) (t : Tb) (ht : Tab w v t) : Calls Try.prog 46 #[v] w fun e w' => e = .returned (.bool (complete t)) ∧ ∃ q, w' = w.drewN q := by
  obtain ⟨A, c, rfl, hc1, hc2, hc⟩ := ht.open_
  have HC := Lib.hid hc
  clear hc ht
  go_enter Try.func46, Try.ntmps46
  go_wp2_with fail
  go_loopw [3] (fun i wr => ∃ k : Nat, k ≤ t.length ∧ i = .int .i64 k ∧ (∀ r, r < k → ∀ c, c < (t.row r).length → (t.row r).getD c 0 ≠ -1) ∧ ∃ q, wr = w.drewN q) (fun i _ => t.length - (intOf i).toNat)
  case atStart => exact ⟨0, Nat.zero_le _, rfl, fun j hj => absurd hj (by omega), 0, rfl⟩
  case round =>
    obtain ⟨k, hk, rfl, hz, q, rfl⟩ := hrel
    have HZ := Lib.hid hz
    clear hz
    have hk0 : (0 : Int) ≤ (k : Int) := Int.natCast_nonneg _
    by_cases hlt : k < t.length
    · have hlt' : (k : Int) < (t.length : Int) := by omega
      obtain ⟨b, off, rfl, hcell⟩ := HC.out (by omega)
      obtain ⟨u, hu, hI⟩ := hcell k hlt
      have hI2 : IntsAt w u (t.row k) := hI
      clear hI hcell
      obtain ⟨A2, c2, rfl, hd1, hd2, hd⟩ := hI2.open_
      have HD := Lib.hid hd
      have HF := Lib.hid hI2.2
      clear hd hI2
      go_wp2_with fail
      go_loopw [4] (fun i wr => ∃ j : Nat, j ≤ (t.row k).length ∧ i = .int .i64 j ∧ (∀ i, i < j → (t.row k).getD i 0 ≠ -1) ∧ ∃ q, wr = w.drewN q) (fun i _ => (t.row k).length - (intOf i).toNat)
      case atStart => exact ⟨0, Nat.zero_le _, rfl, fun j hj => absurd hj (by omega), q, rfl⟩
      case round =>
        obtain ⟨j, hj, rfl, hzj, qj, rfl⟩ := hrel
        have HZJ := Lib.hid hzj
        clear hzj
        have hj0 : (0 : Int) ≤ (j : Int) := Int.natCast_nonneg _
        by_cases hjl : j < (t.row k).length
        · obtain ⟨b2, o2, rfl, hd'⟩ := HD.out (by omega)
          have hx := hd' j hjl
          clear hd'
          have hjl' : (j : Int) < ((t.row k).length : Int) := by omega
          have HT : Hid ((t.row k).getD j 0 = -1 → complete t = false) := Lib.hid fun h => complete_false hlt hjl h
          have HG : Hid ((t.row k).getD j 0 ≠ -1 → ∀ i, i < j + 1 → (t.row k).getD i 0 ≠ -1) := Lib.hid fun h => all_succ HZJ.out h
          have hI : -9223372036854775808 ≤ (t.row k).getD j 0 ∧ (t.row k).getD j 0 ≤ 9223372036854775807 := Fits.at_ HF.out j
          generalize (t.row k).getD j 0 = s at *
          by_cases h1 : s = -1
          · have d5 : (s == -1) = true := by simpa using h1
            have H1 := Lib.hid h1
            clear h1
            go_wp2_with fail
            go_ret
            exact ⟨ret_bool (HT.out H1.out).symm, _, rfl⟩
          · have d5 : (s == -1) = false := by simpa using h1
            have H1 := Lib.hid h1
            clear h1
            go_wp2_with fail
            go_roundw
            case rel => exact ⟨j + 1, by omega, by go_num, HG.out H1.out, _, rfl⟩
            case measure => simp [intOf]; omega
        · obtain rfl : j = (t.row k).length := by omega
          go_wp2_with fail
          go_roundw
          case rel => exact ⟨k + 1, by omega, by go_num, all_succ HZ.out HZJ.out, _, rfl⟩
          case measure => simp [intOf]; omega
    · obtain rfl : k = t.length := by omega
      go_wp2_with fail
      go_ret
      exact ⟨ret_bool (complete_true HZ.out).symm, _, rfl⟩
end Go.Proofs
namespace Go.Proofs
open Go.RowKit Go.Shelf Go.Proofs.Ct

set_option maxRecDepth 100000 in
set_option maxHeartbeats 400000 in
theorem same18_any (w : World) (va vb : Value) (A B : List (List Int)) (ha : Tab w va A) (hb : Tab w vb B) :
    Calls Try.prog 34 #[va, vb] w fun e w' => e = .returned (.bool (decide (A = B))) ∧ ∃ q, w' = w.drewN q := by
  obtain ⟨A0, ca, rfl, ha1, ha2, ha3⟩ := ha.open_
  obtain ⟨B0, cb, rfl, hb1, hb2, hb3⟩ := hb.open_
  have HA := Lib.hid ha3
  have HB := Lib.hid hb3
  clear ha hb ha3 hb3
  by_cases hl : A.length = B.length
  · have d1 : ((A.length : Int) != (B.length : Int)) = false := by simp; omega
    have d2 : (A.length != B.length) = false := by simp; omega
    have HL := Lib.hid hl
    clear hl
    go_enter Try.func34, Try.ntmps34
    go_wp2_with fail
    go_loopw [5] (fun i wr => ∃ k : Nat, k ≤ A.length ∧ i = .int .i64 k ∧ (∀ j, j < k → A.getD j [] = B.getD j []) ∧ ∃ q, wr = w.drewN q) (fun i _ => A.length - (intOf i).toNat)
    case atStart => exact ⟨0, Nat.zero_le _, rfl, fun j hj => absurd hj (by omega), 0, rfl⟩
    case round =>
      obtain ⟨k, hk, rfl, hz, q, rfl⟩ := hrel
      have HZ := Lib.hid hz
      clear hz
      by_cases hlt : k < A.length
      · obtain ⟨b1, o1, rfl, hc1⟩ := HA.out (by omega)
        obtain ⟨b2, o2, rfl, hc2⟩ := HB.out (by rw [← HL.out]; omega)
        obtain ⟨u1, hu1, hr1⟩ := hc1 k hlt
        obtain ⟨u2, hu2, hr2⟩ := hc2 k (by rw [← HL.out]; omega)
        obtain ⟨A3, c3, rfl, hd1, hd2, hd⟩ := hr1.open_
        obtain ⟨A4, c4, rfl, he1, he2, he⟩ := hr2.open_
        have hk0 : (0 : Int) ≤ (k : Int) := Int.natCast_nonneg _
        have hkb : (k : Int) < (B.length : Int) := by rw [← HL.out]; omega
        have hka : (k : Int) < (A.length : Int) := by omega
        have HN := Lib.hid (fun h => getD_ne (A := A) (B := B) (d := []) (k := k) h)
        generalize hxe : A.getD k [] = x at *
        generalize hye : B.getD k [] = y at *
        have HXE := Lib.hid hxe
        have HYE := Lib.hid hye
        clear hxe hye
        have HD := Lib.hid hd
        have HE := Lib.hid he
        clear hc1 hc2 hr1 hr2 hd he
        by_cases hxy : x.length = y.length
        · have d3 : ((x.length : Int) != (y.length : Int)) = false := by simp; omega
          have d4 : (x.length != y.length) = false := by simp; omega
          have HX := Lib.hid hxy
          clear hxy
          go_wp2_with fail
          go_quiet (fail)
          go_wp2_with fail
          go_loopw [6] (fun i wr => ∃ j : Nat, j ≤ x.length ∧ i = .int .i64 j ∧ (∀ t, t < j → x.getD t 0 = y.getD t 0) ∧ ∃ q, wr = w.drewN q) (fun i _ => x.length - (intOf i).toNat)
          case atStart => exact ⟨0, Nat.zero_le _, rfl, fun j hj => absurd hj (by omega), (by first | exact ⟨_, rfl⟩ | exact ex_drewN)⟩
          case round =>
            obtain ⟨j, hj, rfl, hzj, qj, rfl⟩ := hrel
            have HZJ := Lib.hid hzj
            clear hzj
            by_cases hjl : j < x.length
            · obtain ⟨b3, o3, rfl, hx⟩ := HD.out (by omega)
              obtain ⟨b4, o4, rfl, hy⟩ := HE.out (by rw [← HX.out]; omega)
              have hx1 := hx j hjl
              have hy1 := hy j (by rw [← HX.out]; omega)
              have hj0 : (0 : Int) ≤ (j : Int) := Int.natCast_nonneg _
              have hjb : (j : Int) < (y.length : Int) := by rw [← HX.out]; omega
              have hja : (j : Int) < (x.length : Int) := by omega
              have HM := Lib.hid (fun h => getD_ne (A := x) (B := y) (d := 0) (k := j) h)
              clear hx hy
              generalize hse : x.getD j 0 = s at *
              generalize hte : y.getD j 0 = t at *
              have HSE := Lib.hid hse
              have HTE := Lib.hid hte
              clear hse hte
              by_cases hst : s = t
              · have d5 : (s != t) = false := by simpa using hst
                have HS := Lib.hid hst
                clear hst
                go_wp2_with fail
                go_quiet (fail)
                go_wp2_with fail
                go_roundw
                case rel => exact ⟨j + 1, by omega, by go_num, all_succ HZJ.out (by rw [HSE.out, HTE.out]; exact HS.out), (by first | exact ⟨_, rfl⟩ | exact ex_drewN)⟩
                case measure => simp [intOf]; omega
              · have d5 : (s != t) = true := by simpa using hst
                have HS := Lib.hid hst
                clear hst
                go_wp2_with fail
                go_quiet (fail)
                go_wp2_with fail
                go_ret
                exact ⟨ret_bool (by simpa using HN.out (HM.out HS.out)), (by first | exact ⟨_, rfl⟩ | exact ex_drewN)⟩
            · obtain rfl : j = x.length := by omega
              go_wp2_with fail
              go_roundw
              case rel => exact ⟨k + 1, by omega, by go_num, all_succ HZ.out (by rw [HXE.out, HYE.out]; exact getD_ext HX.out HZJ.out), _, rfl⟩
              case measure => simp [intOf]; omega
        · have d3 : ((x.length : Int) != (y.length : Int)) = true := by simp; omega
          have d4 : (x.length != y.length) = true := by simp; omega
          have HX := Lib.hid hxy
          clear hxy
          go_wp2_with fail
          go_quiet (fail)
          go_wp2_with fail
          go_ret
          exact ⟨ret_bool (by simpa using HN.out (fun e => HX.out (by rw [e]))), (by first | exact ⟨_, rfl⟩ | exact ex_drewN)⟩
      · obtain rfl : k = A.length := by omega
        go_wp2_with fail
        go_ret
        exact ⟨ret_bool (by simpa using getD_ext HL.out HZ.out), _, rfl⟩
  · have d1 : ((A.length : Int) != (B.length : Int)) = true := by simp; omega
    have d2 : (A.length != B.length) = true := by simp; omega
    have HL := Lib.hid hl
    clear hl
    go_enter Try.func34, Try.ntmps34
    go_wp2_with fail
    go_ret
    exact ⟨ret_bool (by simpa using fun e => HL.out (by rw [e])), 0, rfl⟩


set_option maxRecDepth 100000 in
set_option maxHeartbeats 400000 in
theorem equal142_any (w : World) (va vb : Value) (x y : List Int) (ha : IntsAt w va x) (hb : IntsAt w vb y) :
    Calls Try.prog 142 #[va, vb] w fun e w' => e = .returned (.bool (decide (x = y))) ∧ ∃ q, w' = w.drewN q := by
  obtain ⟨A3, c3, rfl, hd1, hd2, hd⟩ := ha.open_
  obtain ⟨A4, c4, rfl, he1, he2, he⟩ := hb.open_
  have HD := Lib.hid hd
  have HE := Lib.hid he
  clear ha hb hd he
  have HN := Lib.hid (fun (h : x.length ≠ y.length) (e : x = y) => h (by rw [e]))
  by_cases hxy : x.length = y.length
  · have d3 : ((x.length : Int) != (y.length : Int)) = false := by simp; omega
    have d4 : (x.length != y.length) = false := by simp; omega
    have HX := Lib.hid hxy
    clear hxy
    go_enter Try.func142, Try.ntmps142
    go_wp2_with fail
    go_loopw [5, 13] (fun _ i wr => ∃ j : Nat, j ≤ x.length ∧ i = .int .i64 j ∧ (∀ t, t < j → x.getD t 0 = y.getD t 0) ∧ ∃ q, wr = w.drewN q) (fun _ i _ => x.length - (intOf i).toNat)
    case atStart => exact ⟨0, Nat.zero_le _, rfl, fun j hj => absurd hj (by omega), 0, rfl⟩
    case round =>
      obtain ⟨j, hj, rfl, hzj, qj, rfl⟩ := hrel
      have HZJ := Lib.hid hzj
      clear hzj
      by_cases hjl : j < x.length
      · obtain ⟨b3, o3, rfl, hx⟩ := HD.out (by omega)
        obtain ⟨b4, o4, rfl, hy⟩ := HE.out (by rw [← HX.out]; omega)
        have hx1 := hx j hjl
        have hy1 := hy j (by rw [← HX.out]; omega)
        have hj0 : (0 : Int) ≤ (j : Int) := Int.natCast_nonneg _
        have hjb : (j : Int) < (y.length : Int) := by rw [← HX.out]; omega
        have hja : (j : Int) < (x.length : Int) := by omega
        have HM := Lib.hid (fun h => getD_ne (A := x) (B := y) (d := 0) (k := j) h)
        clear hx hy
        generalize hse : x.getD j 0 = s at *
        generalize hte : y.getD j 0 = t at *
        have HSE := Lib.hid hse
        have HTE := Lib.hid hte
        clear hse hte
        by_cases hst : s = t
        · have d5 : (s != t) = false := by simpa using hst
          have HS := Lib.hid hst
          clear hst
          go_wp2_with fail
          go_quiet (fail)
          go_wp2_with fail
          go_roundw
          case rel => exact ⟨j + 1, by omega, by go_num, all_succ HZJ.out (by rw [HSE.out, HTE.out]; exact HS.out), (by first | exact ⟨_, rfl⟩ | exact ex_drewN)⟩
          case measure => simp [intOf]; omega
        · have d5 : (s != t) = true := by simpa using hst
          have HS := Lib.hid hst
          clear hst
          go_wp2_with fail
          go_quiet (fail)
          go_wp2_with fail
          go_ret
          exact ⟨ret_bool (by simpa using HM.out HS.out), (by first | exact ⟨_, rfl⟩ | exact ex_drewN)⟩
      · obtain rfl : j = x.length := by omega
        go_wp2_with fail
        go_ret
        exact ⟨ret_bool (by simpa using getD_ext HX.out HZJ.out), (by first | exact ⟨_, rfl⟩ | exact ex_drewN)⟩
  · have d3 : ((x.length : Int) != (y.length : Int)) = true := by simp; omega
    have d4 : (x.length != y.length) = true := by simp; omega
    have HX := Lib.hid hxy
    clear hxy
    go_enter Try.func142, Try.ntmps142
    go_wp2_with fail
    go_ret
    exact ⟨ret_bool (by simpa using HN.out HX.out), 0, rfl⟩

set_option maxRecDepth 100000 in
set_option maxHeartbeats 400000 in
theorem equal143_any (w : World) (va vb : Value) (x y : List Int) (ha : IntsAt w va x) (hb : IntsAt w vb y) :
    Calls Try.prog 143 #[va, vb] w fun e w' => e = .returned (.bool (decide (x = y))) ∧ ∃ q, w' = w.drewN q := by
  obtain ⟨A3, c3, rfl, hd1, hd2, hd⟩ := ha.open_
  obtain ⟨A4, c4, rfl, he1, he2, he⟩ := hb.open_
  have HD := Lib.hid hd
  have HE := Lib.hid he
  clear ha hb hd he
  have HN := Lib.hid (fun (h : x.length ≠ y.length) (e : x = y) => h (by rw [e]))
  by_cases hxy : x.length = y.length
  · have d3 : ((x.length : Int) != (y.length : Int)) = false := by simp; omega
    have d4 : (x.length != y.length) = false := by simp; omega
    have HX := Lib.hid hxy
    clear hxy
    go_enter Try.func143, Try.ntmps143
    go_wp2_with fail
    go_loopw [5, 13] (fun _ i wr => ∃ j : Nat, j ≤ x.length ∧ i = .int .i64 j ∧ (∀ t, t < j → x.getD t 0 = y.getD t 0) ∧ ∃ q, wr = w.drewN q) (fun _ i _ => x.length - (intOf i).toNat)
    case atStart => exact ⟨0, Nat.zero_le _, rfl, fun j hj => absurd hj (by omega), 0, rfl⟩
    case round =>
      obtain ⟨j, hj, rfl, hzj, qj, rfl⟩ := hrel
      have HZJ := Lib.hid hzj
      clear hzj
      by_cases hjl : j < x.length
      · obtain ⟨b3, o3, rfl, hx⟩ := HD.out (by omega)
        obtain ⟨b4, o4, rfl, hy⟩ := HE.out (by rw [← HX.out]; omega)
        have hx1 := hx j hjl
        have hy1 := hy j (by rw [← HX.out]; omega)
        have hj0 : (0 : Int) ≤ (j : Int) := Int.natCast_nonneg _
        have hjb : (j : Int) < (y.length : Int) := by rw [← HX.out]; omega
        have hja : (j : Int) < (x.length : Int) := by omega
        have HM := Lib.hid (fun h => getD_ne (A := x) (B := y) (d := 0) (k := j) h)
        clear hx hy
        generalize hse : x.getD j 0 = s at *
        generalize hte : y.getD j 0 = t at *
        have HSE := Lib.hid hse
        have HTE := Lib.hid hte
        clear hse hte
        by_cases hst : s = t
        · have d5 : (s != t) = false := by simpa using hst
          have HS := Lib.hid hst
          clear hst
          go_wp2_with fail
          go_quiet (fail)
          go_wp2_with fail
          go_roundw
          case rel => exact ⟨j + 1, by omega, by go_num, all_succ HZJ.out (by rw [HSE.out, HTE.out]; exact HS.out), (by first | exact ⟨_, rfl⟩ | exact ex_drewN)⟩
          case measure => simp [intOf]; omega
        · have d5 : (s != t) = true := by simpa using hst
          have HS := Lib.hid hst
          clear hst
          go_wp2_with fail
          go_quiet (fail)
          go_wp2_with fail
          go_ret
          exact ⟨ret_bool (by simpa using HM.out HS.out), (by first | exact ⟨_, rfl⟩ | exact ex_drewN)⟩
      · obtain rfl : j = x.length := by omega
        go_wp2_with fail
        go_ret
        exact ⟨ret_bool (by simpa using getD_ext HX.out HZJ.out), (by first | exact ⟨_, rfl⟩ | exact ex_drewN)⟩
  · have d3 : ((x.length : Int) != (y.length : Int)) = true := by simp; omega
    have d4 : (x.length != y.length) = true := by simp; omega
    have HX := Lib.hid hxy
    clear hxy
    go_enter Try.func143, Try.ntmps143
    go_wp2_with fail
    go_ret
    exact ⟨ret_bool (by simpa using HN.out HX.out), 0, rfl⟩

theorem eg142 : ∀ args w, (callFunc 142 args).run Try.prog w = .ok (.enter 142 args) w := enters_of Try.func142 (by kernel_rfl) rfl
set_option maxRecDepth 100000 in
set_option maxHeartbeats 400000 in
theorem equalF141_any (w : World) (va vb : Value) (A B : List (List Int)) (ha : Tab w va A) (hb : Tab w vb B) :
    Calls Try.prog 141 #[va, vb, .func (.func 142) #[] #[]] w fun e w' => e = .returned (.bool (decide (A = B))) ∧ ∃ q, w' = w.drewN q := by
  have HEG := eg142
  obtain ⟨A0, ca, rfl, ha1, ha2, ha3⟩ := ha.open_
  obtain ⟨B0, cb, rfl, hb1, hb2, hb3⟩ := hb.open_
  have HA := Lib.hid ha3
  have HB := Lib.hid hb3
  clear ha hb ha3 hb3
  by_cases hl : A.length = B.length
  · have d1 : ((A.length : Int) != (B.length : Int)) = false := by simp; omega
    have d2 : (A.length != B.length) = false := by simp; omega
    have HL := Lib.hid hl
    clear hl
    go_enter Try.func141, Try.ntmps141
    go_wp2_with fail
    go_loopw [17] (fun i wr => ∃ k : Nat, k ≤ A.length ∧ i = .int .i64 k ∧ (∀ j, j < k → A.getD j [] = B.getD j []) ∧ ∃ q, wr = w.drewN q) (fun i _ => A.length - (intOf i).toNat)
    case atStart => exact ⟨0, Nat.zero_le _, rfl, fun j hj => absurd hj (by omega), 0, rfl⟩
    case round =>
      obtain ⟨k, hk, rfl, hz, q, rfl⟩ := hrel
      have HZ := Lib.hid hz
      clear hz
      by_cases hlt : k < A.length
      · obtain ⟨b1, o1, rfl, hc1⟩ := HA.out (by omega)
        obtain ⟨b2, o2, rfl, hc2⟩ := HB.out (by rw [← HL.out]; omega)
        obtain ⟨u1, hu1, hr1⟩ := hc1 k hlt
        obtain ⟨u2, hu2, hr2⟩ := hc2 k (by rw [← HL.out]; omega)
        have hk0 : (0 : Int) ≤ (k : Int) := Int.natCast_nonneg _
        have hkb : (k : Int) < (B.length : Int) := by rw [← HL.out]; omega
        have hka : (k : Int) < (A.length : Int) := by omega
        have HN := Lib.hid (fun h => getD_ne (A := A) (B := B) (d := []) (k := k) h)
        have hcall : Calls Try.prog 142 #[u1, u2] (w.drewN q) fun e w' => e = .returned (.bool (decide (A.getD k [] = B.getD k []))) ∧ ∃ q', w' = (w.drewN q).drewN q' := equal142_any (w.drewN q) u1 u2 _ _ (hr1.drewN q) (hr2.drewN q)
        have HXY : Hid (A.getD k [] = B.getD k [] → ∀ j, j < k + 1 → A.getD j [] = B.getD j []) := Lib.hid fun h => all_succ HZ.out h
        clear hc1 hc2 hr1 hr2
        by_cases hxy : A.getD k [] = B.getD k []
        · rw [decide_eq_true hxy] at hcall
          have HC := Lib.hid hcall
          have HS := Lib.hid (HXY.out hxy)
          clear hcall hxy
          go_wp2_with (go_at_fn 142; (refine HC.out.mono ?_); rintro e w' ⟨rfl, q', rfl⟩)
          go_roundw
          case rel => exact ⟨k + 1, by omega, by go_num, HS.out, (by first | exact ⟨_, rfl⟩ | exact ex_drewN)⟩
          case measure => simp [intOf]; omega
        · rw [decide_eq_false hxy] at hcall
          have HC := Lib.hid hcall
          have HS := Lib.hid (HN.out hxy)
          clear hcall hxy
          go_wp2_with (go_at_fn 142; (refine HC.out.mono ?_); rintro e w' ⟨rfl, q', rfl⟩)
          go_ret
          exact ⟨ret_bool (by simpa using HS.out), (by first | exact ⟨_, rfl⟩ | exact ex_drewN)⟩
      · obtain rfl : k = A.length := by omega
        go_wp2_with fail
        go_ret
        exact ⟨ret_bool (by simpa using getD_ext HL.out HZ.out), _, rfl⟩
  · have d1 : ((A.length : Int) != (B.length : Int)) = true := by simp; omega
    have d2 : (A.length != B.length) = true := by simp; omega
    have HL := Lib.hid hl
    clear hl
    go_enter Try.func141, Try.ntmps141
    go_wp2_with fail
    go_ret
    exact ⟨ret_bool (by simpa using fun e => HL.out (by rw [e])), 0, rfl⟩
theorem same109_any (w : World) (va vb : Value) (A B : List (List Int)) (ha : Tab w va A) (hb : Tab w vb B) :
    Calls Try.prog 109 #[va, vb] w fun e w' => e = .returned (.bool (decide (A = B))) ∧ ∃ q, w' = w.drewN q := by
  have HC := Lib.hid (equalF141_any w va vb A B ha hb)
  clear ha hb
  generalize decide (A = B) = r at *
  go_enter Try.func109, Try.ntmps109
  go_wp2_with (go_at_call 141; (refine HC.out.mono ?_); rintro e w' ⟨rfl, q, rfl⟩)
  go_ret
  exact ⟨rfl, _, rfl⟩

def ltrI (c : Int) : Int := if c % 2 = 1 then -(c / 2 + 1) else c / 2 + 1
theorem letter_ltrI (c : Nat) : letter c = ltrI c := by
  unfold letter ltrI
  by_cases h : c % 2 = 1
  · rw [if_pos h, if_pos (by omega)]; omega
  · rw [if_neg h, if_neg (by omega)]; omega
set_option maxRecDepth 100000 in
theorem letter110_int (w : World) (c : Int) (h0 : 0 ≤ c) (h1 : c ≤ 1000000) : Calls Try.prog 110 #[.int .i64 c] w fun e w' => e = .returned (.int .i64 (ltrI c)) ∧ w = w' := by
  by_cases h : c % 2 = 1
  · have d1 : (c % 2 == 1) = true := beq_iff_eq.2 h
    have HL : Hid (ltrI c = -(c / 2 + 1)) := Lib.hid (if_pos h)
    clear h
    go_enter Try.func110, Try.ntmps110
    go_wp2_with fail
    go_ret
    exact ⟨by rw [HL.out]; rfl, rfl⟩
  · have d1 : (c % 2 == 1) = false := beq_eq_false_iff_ne.2 h
    have HL : Hid (ltrI c = c / 2 + 1) := Lib.hid (if_neg h)
    clear h
    go_enter Try.func110, Try.ntmps110
    go_wp2_with fail
    go_ret
    exact ⟨by rw [HL.out]; rfl, rfl⟩
theorem letter110_any (w : World) (c : Nat) (hc : c ≤ 1000000) : Calls Try.prog 110 #[.int .i64 (c : Int)] w fun e w' => e = .returned (.int .i64 (letter c)) ∧ w = w' := by
  rw [letter_ltrI]
  exact letter110_int w c (by omega) (by omega)

theorem src_ints {t : TypeId} (ht : Try.prog.underlying t = some (.slice 3)) {w : World} {v : Value} {y : List Int} (h : IntsAt w v y) : Src Try.prog 1 t v y.length (ints y) w := by
  obtain ⟨⟨A, n, cap, rfl, hn, hc, hm, hr⟩, -⟩ := h
  have hl : n = y.length := by simpa [ints] using hn
  subst hl
  rcases Nat.eq_zero_or_pos y.length with h0 | h0
  · obtain rfl : y = [] := List.length_eq_zero_iff.1 h0
    cases A with
    | none => exact Src.ofNil w ht cap
    | some a => exact Src.ofSlice w ht a 0 cap [] rfl (fun j u hu => by simp at hu) (fun u hu => by cases hu)
  · obtain ⟨b, off, rfl, hrow⟩ := hr h0
    exact Src.ofSlice w ht _ _ cap (ints y) (by simp [ints]) (fun j u hu => by rw [Addr.add_lit]; exact hrow j u hu) (fun u hu => by obtain ⟨x, -, rfl⟩ := List.mem_map.1 hu; rfl)
/-- append([]int{}, y...): the copy lies in a block of its own -/
theorem run_copy {t : TypeId} (ht : Try.prog.underlying t = some (.slice 3)) {w : World} {v : Value} {y : List Int} (h : IntsAt w v y) (hl : y.length ≤ 1000000) :
    ∃ A cap w', (Builtin.append_ #[t, t] t #[.slice (some ⟨w.heap.size, 0, none⟩) 0 0, v]).run Try.prog (w.alloc (.cells #[] 3)) = .ok (.slice A y.length cap) w' ∧
      Below w.heap.size w w' ∧ OwnI w.heap.size w' (.slice A y.length cap) y := by
  obtain ⟨i, hi, hz, hs, hby⟩ := info3p
  have hal : Below w.heap.size w (w.alloc (.cells #[] 3)) := (Below.refl _ _).alloc (Nat.le_refl _) _
  have hnew := heap_alloc_new w (.cells #[] 3)
  have hsz : (w.alloc (.cells #[] 3)).heap.size = w.heap.size + 1 := by simp
  have hsrc := src_ints ht (h.below hal)
  generalize w.alloc (.cells #[] 3) = W at *
  rcases Nat.eq_zero_or_pos y.length with h0 | h0
  · obtain rfl : y = [] := List.length_eq_zero_iff.1 h0
    have := run_append_room_src (P := Try.prog) W t t t 3 i ht hi w.heap.size 0 0 0 v 0 [] (by rw [hs]; exact hsrc) (Nat.le_refl _) (fun j hj => absurd hj (by simp)) (fun j hj => absurd hj (by simp))
    exact ⟨_, 0, W, this, hal, rfl, .inr ⟨w.heap.size, 0, #[], rfl, Nat.le_refl _, hnew, Nat.le_refl _, by simp, rfl, rfl⟩⟩
  · have hold : (Builtin.firstCells i.size 0 (.slice (some ⟨w.heap.size, 0, none⟩) 0 0)).run Try.prog W.drew = .ok ([] : List Value).toArray W.drew := by
      rw [hs]
      exact run_firstCells_some W.drew 1 0 ⟨w.heap.size, 0, none⟩ 0 0 [] rfl (fun j u hu => by simp at hu)
    have hg := run_append_grow_src (P := Try.prog) W t t t 3 i (.int .i64 0) ht hi hz (some ⟨w.heap.size, 0, none⟩) 0 0 [] hold v y.length (ints y) (by rw [hs]; exact hsrc) (by omega) (by omega) (growslice_fits (by omega) (by rw [hby]; omega))
    simp only [Nat.zero_add, List.nil_append] at hg
    have hcm := grownCap_le_maxLen W y.length 0 3 (by unfold maxLen; omega)
    have hcg := grownCap_ge W y.length 0 3
    refine ⟨_, _, _, hg, hal.trans ⟨rfl, rfl, rfl, by simp, fun k hk => (Below.heap_alloc W.drew _ k (by show k < W.heap.size; omega))⟩, by simp [ints], .inr ⟨W.heap.size, _, _, rfl, by omega, heap_alloc_new W.drew _, hcg, hcm, ?_, ?_⟩⟩
    · simp [ints, size_zeroCells, Value.cells]
      omega
    · simp [ints]
theorem eqnil_none (w : World) (n c : Nat) : (binOp .eql 25 (.slice none n c) (.slice none 0 0)).run Try.prog w = .ok (.bool true) w := by kernel_rfl
theorem eqnil_some (w : World) (a : Addr) (n c : Nat) : (binOp .eql 25 (.slice (some a) n c) (.slice none 0 0)).run Try.prog w = .ok (.bool false) w := by kernel_rfl
set_option maxRecDepth 100000 in
theorem clone71_any (w : World) (v : Value) (xs : List Int) (h : IntsAt w v xs) (hl : xs.length ≤ 1000000) :
    Calls Try.prog 71 #[v] w fun e w' => ∃ A c, e = .returned (.slice A xs.length c) ∧ OwnI w.heap.size w' (.slice A xs.length c) xs ∧ Below w.heap.size w w' := by
  obtain ⟨A0, c0, w', hr, hb, ho⟩ := run_copy Try.underlying25 h hl
  have HR := Lib.hid hr
  have HB := Lib.hid hb
  have HO := Lib.hid ho
  obtain ⟨A, cap, rfl, hcap, hmax, hc⟩ := h.open_
  cases A with
  | none =>
    have h0 : xs = [] := by
      rcases Nat.eq_zero_or_pos xs.length with h0 | h0
      · exact List.length_eq_zero_iff.1 h0
      · obtain ⟨b, off, hx, -⟩ := hc h0
        cases hx
    clear hr hb ho hc h HR HB HO
    subst h0
    have hq := eqnil_none w
    go_enter Try.func71, Try.ntmps71
    go_wp2_with fail
    go_ret
    exact ⟨none, 0, rfl, World.ownsRow_nil _ _ _ _, Below.refl _ _⟩
  | some a =>
    clear hr hb ho hc h
    have hq := eqnil_some w
    go_enter Try.func71, Try.ntmps71
    go_wp2_with ((with_reducible refine wpList_sel 7 ?_); refine wpList_val rfl (r_app (.tmp 5) (.tmp 6) 25 rfl rfl rfl HR.out) ?_)
    go_ret
    exact ⟨_, _, rfl, HO.out, HB.out⟩
end Go.Proofs
namespace Go.Proofs.Ct

def opp (x y : Int) : Bool := decide (x ≠ 0) && decide (y = -x)
def push (st : W) (x : Int) : W := if decide (0 < st.length) && opp (st.getD (st.length - 1) 0) x then st.take (st.length - 1) else st ++ [x]
def redTo (w : W) (k : Nat) : W := foldTo (fun k st => push st (w.getD k 0)) k []
def red (w : W) : W := redTo w w.length
def inv (w : W) : W := w.reverse.map fun x => -x
def mulW (a b : W) : W := red (a ++ b)
def invW (a : W) : W := red (inv a)

theorem push_mem {st : W} {x y : Int} (h : y ∈ push st x) : y ∈ st ∨ y = x := by
  unfold push at h
  split at h
  · exact .inl (List.mem_of_mem_take h)
  · simpa using h
theorem redTo_mem {w : W} : ∀ {k : Nat}, k ≤ w.length → ∀ {y : Int}, y ∈ redTo w k → y ∈ w
  | 0, _, y, h => by simp [redTo, foldTo] at h
  | k + 1, hk, y, h => by
    rcases push_mem h with h | h
    · exact redTo_mem (by omega) h
    · rw [h, List.getD_eq_getElem?_getD, List.getElem?_eq_getElem (by omega : k < w.length)]
      exact List.getElem_mem _
theorem push_length (st : W) (x : Int) : (push st x).length ≤ st.length + 1 := by
  unfold push
  split
  · simp; omega
  · simp
theorem redTo_length (w : W) : ∀ k, (redTo w k).length ≤ k
  | 0 => by simp [redTo, foldTo]
  | k + 1 => by
    have := push_length (redTo w k) (w.getD k 0)
    have := redTo_length w k
    show (push (redTo w k) (w.getD k 0)).length ≤ k + 1
    omega
theorem red_mem {w : W} {y : Int} (h : y ∈ red w) : y ∈ w := redTo_mem (Nat.le_refl _) h
theorem red_length (w : W) : (red w).length ≤ w.length := redTo_length _ _
theorem length_inv (w : W) : (inv w).length = w.length := by simp [inv]
theorem mem_inv {w : W} {y : Int} (h : y ∈ inv w) : -y ∈ w := by
  simp [inv] at h
  obtain ⟨a, ha, rfl⟩ := h
  simpa using ha

def dest (t : Tb) (r : Nat) (g : Nat) : Nat := (t.at r (2 * g)).toNat
/-- no tree edge: the coset r and the generator g + 1 -/
def nt (t : Tb) (R : List W) (r g : Nat) : Bool :=
  !(decide (R.getD (dest t r g) [] = R.getD r [] ++ [((g + 1 : Nat) : Int)])) && !(decide (R.getD r [] = R.getD (dest t r g) [] ++ [-((g + 1 : Nat) : Int)]))
def pairRow (t : Tb) (R : List W) (r : Nat) (g : Nat) (l : List (Nat × Nat)) : List (Nat × Nat) := foldTo (fun g l => if nt t R r g then l ++ [(r, g)] else l) g l
def pairTo (t : Tb) (R : List W) (gens r : Nat) : List (Nat × Nat) := foldTo (fun r l => pairRow t R r gens l) r []
def pairs (t : Tb) (R : List W) (gens : Nat) : List (Nat × Nat) := pairTo t R gens t.length
/-- the number of a pair: the pairs up to it -/
def number (t : Tb) (R : List W) (gens r g : Nat) : Int := if nt t R r g then (pairRow t R r (g + 1) (pairTo t R gens r)).length else 0

def schr (t : Tb) (R : List W) (p : Nat × Nat) : W := mulW (R.getD p.1 [] ++ [((p.2 + 1 : Nat) : Int)]) (invW (R.getD (dest t p.1 p.2) []))
def stepW (t : Tb) (r : Nat) (x : Int) : Nat := (t.at r (if 0 < x then (2 * x - 2).toNat else (-2 * x - 1).toNat)).toNat
def letN (t : Tb) (R : List W) (gens r : Nat) (x : Int) : Int :=
  if 0 < x then number t R gens r (x - 1).toNat else -number t R gens (stepW t r x) (-x - 1).toNat
def rwTo (t : Tb) (R : List W) (gens : Nat) (w : W) (r : Nat) (k : Nat) : Nat × W :=
  foldTo (fun k s => (stepW t s.1 (w.getD k 0), if letN t R gens s.1 (w.getD k 0) ≠ 0 then s.2 ++ [letN t R gens s.1 (w.getD k 0)] else s.2)) k (r, [])
def rwW (t : Tb) (R : List W) (gens : Nat) (r : Nat) (w : W) : W := red (rwTo t R gens w r w.length).2

theorem pairRow_length (t : Tb) (R : List W) (r g : Nat) (l : List (Nat × Nat)) : l.length ≤ (pairRow t R r g l).length ∧ (pairRow t R r g l).length ≤ l.length + g := by
  induction g with
  | zero => simp [pairRow, foldTo]
  | succ g ih =>
    unfold pairRow at ih ⊢
    rw [foldTo]
    split
    · simp; omega
    · omega
theorem pairTo_length (t : Tb) (R : List W) (gens r : Nat) : (pairTo t R gens r).length ≤ r * gens := by
  induction r with
  | zero => simp [pairTo, foldTo]
  | succ r ih =>
    have := (pairRow_length t R r gens (pairTo t R gens r)).2
    show (pairRow t R r gens (pairTo t R gens r)).length ≤ (r + 1) * gens
    rw [Nat.add_mul]
    omega
theorem number_bd (t : Tb) (R : List W) (gens r g : Nat) : 0 ≤ number t R gens r g ∧ number t R gens r g ≤ r * gens + g + 1 := by
  unfold number
  split
  · have h1 := (pairRow_length t R r (g + 1) (pairTo t R gens r)).2
    have h2 := pairTo_length t R gens r
    have h3 : (r : Int) * (gens : Int) = ((r * gens : Nat) : Int) := by simp
    rw [h3]
    omega
  · have h3 : (r : Int) * (gens : Int) = ((r * gens : Nat) : Int) := by simp
    rw [h3]
    omega
end Go.Proofs.Ct
namespace Go.Proofs
open Go.RowKit Go.Shelf Go.Proofs.Ct

def Mild (x : Int) : Prop := -4611686018427387903 ≤ x ∧ x ≤ 4611686018427387903
theorem Mild.fits {w : List Int} (h : ∀ x ∈ w, Mild x) : Fits w := fun x hx => by
  have := h x hx
  unfold Mild at this
  omega
theorem Mild.at_ {w : List Int} (h : ∀ x ∈ w, Mild x) (k : Nat) : Mild (w.getD k 0) := by
  rw [List.getD_eq_getElem?_getD]
  rcases Nat.lt_or_ge k w.length with hk | hk
  · rw [List.getElem?_eq_getElem hk]; exact h _ (List.getElem_mem hk)
  · rw [List.getElem?_eq_none hk]; exact ⟨by simp, by simp⟩

set_option maxRecDepth 100000 in
theorem opp134_any (w : World) (x y : Int) (hx : Mild x) (hy : Mild y) : Calls Try.prog 134 #[.int .i64 x, .int .i64 y] w fun e w' => e = .returned (.bool (opp x y)) ∧ w = w' := by
  obtain ⟨h1, h2⟩ := hx
  obtain ⟨h3, h4⟩ := hy
  have HO : Hid (opp x y = (decide (x ≠ 0) && decide (y = -x))) := Lib.hid rfl
  by_cases hx0 : x = 0
  · have d1 : (x != 0) = false := by simpa using hx0
    have HR : Hid (opp x y = false) := Lib.hid (by rw [HO.out]; simp [hx0])
    clear hx0
    go_enter Try.func134, Try.ntmps134
    go_wp2_with fail
    go_ret
    exact ⟨ret_bool HR.out.symm, rfl⟩
  · have d1 : (x != 0) = true := by simpa using hx0
    by_cases hxy : x = y
    · have d2 : (x != y) = false := by simpa using hxy
      have HR : Hid (opp x y = false) := Lib.hid (by rw [HO.out]; simp; omega)
      clear hx0 hxy
      go_enter Try.func134, Try.ntmps134
      go_wp2_with fail
      go_ret
      exact ⟨ret_bool HR.out.symm, rfl⟩
    · have d2 : (x != y) = true := by simpa using hxy
      by_cases hs : x + y = 0
      · have d3 : (x + y == 0) = true := beq_iff_eq.2 hs
        have HR : Hid (opp x y = true) := Lib.hid (by rw [HO.out]; simp; omega)
        clear hx0 hxy hs
        go_enter Try.func134, Try.ntmps134
        go_wp2_with fail
        go_ret
        exact ⟨ret_bool HR.out.symm, rfl⟩
      · have d3 : (x + y == 0) = false := beq_eq_false_iff_ne.2 hs
        have HR : Hid (opp x y = false) := Lib.hid (by rw [HO.out]; simp; omega)
        clear hx0 hxy hs
        go_enter Try.func134, Try.ntmps134
        go_wp2_with fail
        go_ret
        exact ⟨ret_bool HR.out.symm, rfl⟩
set_option maxRecDepth 100000 in
theorem cancel146_any (w : World) (x y : Int) (hx : Mild x) (hy : Mild y) : Calls Try.prog 146 #[.int .i64 x, .int .i64 y] w fun e w' => e = .returned (.bool (opp x y)) ∧ w = w' := by
  obtain ⟨h1, h2⟩ := hx
  obtain ⟨h3, h4⟩ := hy
  have HO : Hid (opp x y = (decide (x ≠ 0) && decide (y = -x))) := Lib.hid rfl
  have d0 : (x != -9223372036854775808) = true := by simp; omega
  by_cases hx0 : x = 0
  · have d1 : (x != 0) = false := by simpa using hx0
    have HR : Hid (opp x y = false) := Lib.hid (by rw [HO.out]; simp [hx0])
    clear hx0
    go_enter Try.func146, Try.ntmps146
    go_wp2_with fail
    go_ret
    exact ⟨ret_bool HR.out.symm, rfl⟩
  · have d1 : (x != 0) = true := by simpa using hx0
    by_cases hs : y = -x
    · have d3 : (y == -x) = true := beq_iff_eq.2 hs
      have HR : Hid (opp x y = true) := Lib.hid (by rw [HO.out]; simp; omega)
      clear hx0 hs
      go_enter Try.func146, Try.ntmps146
      go_wp2_with fail
      go_ret
      exact ⟨ret_bool HR.out.symm, rfl⟩
    · have d3 : (y == -x) = false := beq_eq_false_iff_ne.2 hs
      have HR : Hid (opp x y = false) := Lib.hid (by rw [HO.out]; simp; omega)
      clear hx0 hs
      go_enter Try.func146, Try.ntmps146
      go_wp2_with fail
      go_ret
      exact ⟨ret_bool HR.out.symm, rfl⟩

theorem owns_take {w : World} {base : Nat} {A : Option Addr} {n c : Nat} {xs : List Int} (h : w.ownsRow base 3 1 (.slice A n c) n (ints xs)) {k : Nat} (hk : k ≤ n) : w.ownsRow base 3 1 (.slice A k c) k (ints (xs.take k)) := by
  obtain ⟨hl, h2⟩ := h
  have hxl : xs.length = n := by simpa [ints] using hl
  refine ⟨by simp [ints]; omega, ?_⟩
  rcases h2 with ⟨e, h0⟩ | ⟨g, cap, cur, e, hb, hg, hnc, hcm, hcs, ht⟩
  · cases e
    obtain rfl : k = 0 := by omega
    exact .inl ⟨rfl, rfl⟩
  · cases e
    refine .inr ⟨g, c, cur, rfl, hb, hg, by omega, hcm, hcs, ?_⟩
    have : ints (xs.take k) = (ints xs).take k := by simp [ints, List.map_take]
    rw [this, ← ht, List.take_take]
    congr 1
    omega

def RedPost (x : List Int) (w : World) (e : Ending) (w' : World) : Prop := ∃ A c, e = .returned (.slice A (red x).length c) ∧ OwnI w.heap.size w' (.slice A (red x).length c) (red x) ∧ Below w.heap.size w w'

set_option maxRecDepth 100000 in
set_option maxHeartbeats 1000000 in
theorem reduce99_any (w : World) (v : Value) (x : List Int) (h : IntsAt w v x) (hm : ∀ z ∈ x, Mild z) (hl : x.length ≤ 100000) : Calls Try.prog 99 #[v] w (RedPost x w) := by
  obtain ⟨A0, c0, rfl, hc1, hc2, hc⟩ := h.open_
  have HC := Lib.hid hc
  have HM := Lib.hid hm
  clear hc h hm
  have hx0 : (0 : Int) ≤ (x.length : Int) := Int.natCast_nonneg _
  go_enter Try.func99, Try.ntmps99
  go_wp2_with fail
  go_step3
  go_wp2_with fail
  go_step3
  go_wp2_with fail
  go_loopw [3, 9] (fun so i wr => ∃ k n : Nat, i = .int .i64 k ∧ k ≤ x.length ∧ n ≤ k ∧ Hid (n = (redTo x k).length) ∧ ∃ A c, so = .slice A n c ∧ Hid (OwnI w.heap.size wr so (redTo x k) ∧ Below w.heap.size w wr)) (fun _ i _ => x.length - (intOf i).toNat)
  case atStart => exact ⟨0, 0, rfl, by omega, by omega, Lib.hid rfl, none, 0, rfl, Lib.hid ⟨World.ownsRow_nil _ _ _ _, Below.refl _ _⟩⟩
  case round =>
    obtain ⟨k, n, rfl, hk, hnk, HN, A, c, rfl, HS⟩ := hrel
    have hk0 : (0 : Int) ≤ (k : Int) := Int.natCast_nonneg _
    have hn0 : (0 : Int) ≤ (n : Int) := Int.natCast_nonneg _
    by_cases hlt : k < x.length
    · have hlt' : (k : Int) < (x.length : Int) := by omega
      obtain ⟨b, o, rfl, hcc⟩ := HC.out (by omega)
      have hck := hcc k hlt
      have hck' := (HS.out.2.cell (p := ⟨b, o + k, none⟩) (World.block_lt_of_cell? w _ hck)).trans hck
      have hmk := Mild.at_ HM.out k
      have HSTEP : Hid (redTo x (k + 1) = push (redTo x k) (x.getD k 0)) := Lib.hid rfl
      have hmst : ∀ z ∈ redTo x k, Mild z := fun z hz => HM.out z (redTo_mem hk hz)
      clear hcc hck
      generalize x.getD k 0 = z at *
      generalize redTo x k = st at *
      have hmk' : -4611686018427387903 ≤ z ∧ z ≤ 4611686018427387903 := hmk
      obtain ⟨hz1, hz2⟩ := hmk'
      have hpush := run_push (ty := 25) Try.underlying25 info3p rfl (by omega) wr w.heap.size (.slice A n c) n (ints st) (by have := HS.out.1; unfold OwnI at this; rw [← HN.out] at this; exact this) (.int .i64 z) rfl (by omega) HS.out.2.size
      by_cases hn : n = 0
      · subst hn
        have hst : st = [] := List.length_eq_zero_iff.1 HN.out.symm
        obtain ⟨A', c', w', hr, ho, hg, -⟩ := hpush
        have hsn : redTo x (k + 1) = st ++ [z] := by rw [HSTEP.out]; unfold push; rw [hst]; rfl
        have HR := Lib.hid hr
        have HS2 : Hid (OwnI w.heap.size w' (.slice A' (0 + 1) c') (redTo x (k + 1)) ∧ Below w.heap.size w w') := Lib.hid ⟨by
          unfold OwnI
          rw [hsn, List.length_append, ← HN.out, ints_app]
          exact ho, HS.out.2.grown hg HS.out.2.size (fun r hr => (owns_block HS.out.1 r hr).1)⟩
        have HN2 : Hid (0 + 1 = (redTo x (k + 1)).length) := Lib.hid (by rw [hsn, List.length_append, ← HN.out]; rfl)
        clear hr ho hg hsn hst hmst hn0
        go_wp2_with ((with_reducible refine wpList_sel 33 ?_); refine wpList_val rfl (r_app (.tmp 30) (.tmp 32) 25 rfl rfl rfl HR.out) ?_)
        go_roundw
        case rel => exact ⟨k + 1, 0 + 1, by go_num, by omega, by omega, HN2, _, _, rfl, HS2⟩
        case measure => simp [intOf]; omega
      · have d1 : decide ((n : Int) > 0) = true := by simp; omega
        have d2 : decide (0 < (n : Int)) = true := by simp; omega
        obtain ⟨m, rfl⟩ : ∃ m, n = m + 1 := ⟨n - 1, by omega⟩
        have hoI := OwnI.ints HS.out.1 (Mild.fits hmst)
        obtain ⟨A5, c5, e5, ht1, ht2, ht3⟩ := hoI.open_
        obtain ⟨rfl, -, rfl⟩ := Value.slice.inj e5
        obtain ⟨b5, o5, rfl, hoc⟩ := ht3 (by have := HN.out; omega)
        have hcm := hoc m (by have := HN.out; omega)
        have hcap : m ≤ c := by have := HN.out; omega
        have hcapI : (m : Int) ≤ (c : Int) := by omega
        have hmy := Mild.at_ hmst m
        have HP : Hid (push st z = if opp (st.getD m 0) z then st.take m else st ++ [z]) := Lib.hid (by
          unfold push
          rw [← HN.out, decide_eq_true (by omega : 0 < m + 1)]
          simp)
        clear hoI e5 ht3 hoc
        generalize st.getD m 0 = y at *
        have hmy' : -4611686018427387903 ≤ y ∧ y ≤ 4611686018427387903 := hmy
        obtain ⟨hy1, hy2⟩ := hmy'
        have hm0 : (0 : Int) ≤ (m : Int) := Int.natCast_nonneg _
        cases hop : opp y z with
        | true =>
          have hsn : redTo x (k + 1) = st.take m := by rw [HSTEP.out, HP.out, hop]; rfl
          have HS2 : Hid (OwnI w.heap.size wr (.slice (some ⟨b5, o5, none⟩) m c) (redTo x (k + 1)) ∧ Below w.heap.size w wr) := Lib.hid ⟨by
            have h1 := HS.out.1
            unfold OwnI at h1 ⊢
            rw [← HN.out] at h1
            have h2 := owns_take h1 (Nat.le_succ m)
            have h3 : (st.take m).length = m := by rw [List.length_take, ← HN.out]; omega
            rw [hsn, h3]
            exact h2, HS.out.2⟩
          have HN2 : Hid (m = (redTo x (k + 1)).length) := Lib.hid (by rw [hsn, List.length_take, ← HN.out]; omega)
          have HCALL := Lib.hid (opp134_any wr y z hmy hmk)
          rw [hop] at HCALL
          clear hsn hmst hop hpush hmy hmk
          go_wp2_with (go_at_call 134; (refine HCALL.out.mono ?_); rintro e w' ⟨rfl, rfl⟩)
          go_roundw
          case rel => exact ⟨k + 1, m, by go_num, by omega, by omega, HN2, _, _, rfl, HS2⟩
          case measure => simp [intOf]; omega
        | false =>
          obtain ⟨A', c', w', hr, ho, hg, -⟩ := hpush
          have hsn : redTo x (k + 1) = st ++ [z] := by rw [HSTEP.out, HP.out, hop]; rfl
          have HR := Lib.hid hr
          have HS2 : Hid (OwnI w.heap.size w' (.slice A' (m + 1 + 1) c') (redTo x (k + 1)) ∧ Below w.heap.size w w') := Lib.hid ⟨by
            unfold OwnI
            rw [hsn, List.length_append, ← HN.out, ints_app]
            exact ho, HS.out.2.grown hg HS.out.2.size (fun r hr => (owns_block HS.out.1 r hr).1)⟩
          have HN2 : Hid (m + 1 + 1 = (redTo x (k + 1)).length) := Lib.hid (by rw [hsn, List.length_append, ← HN.out]; rfl)
          have HCALL := Lib.hid (opp134_any wr y z hmy hmk)
          rw [hop] at HCALL
          clear hr ho hg hsn hmst hop hmy hmk
          go_wp2_with (first
            | (go_at_call 134; (refine HCALL.out.mono ?_); rintro e w' ⟨rfl, rfl⟩)
            | ((with_reducible refine wpList_sel 33 ?_); refine wpList_val rfl (r_app (.tmp 30) (.tmp 32) 25 rfl rfl rfl HR.out) ?_))
          go_roundw
          case rel => exact ⟨k + 1, m + 1 + 1, by go_num, by omega, by omega, HN2, _, _, rfl, HS2⟩
          case measure => simp [intOf]; omega
    · obtain rfl : k = x.length := by omega
      have HZ : Hid (redTo x x.length = red x) := Lib.hid rfl
      rw [HZ.out] at HN HS
      go_wp2_with fail
      rw [Exit.noGoto_ret]
      go_ret
      exact ⟨A, c, by rw [← HN.out]; rfl, by rw [← HN.out]; exact HS.out.1, HS.out.2⟩
end Go.Proofs
