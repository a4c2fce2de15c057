/- Rows of the call's own that grow; a list of numbers in one block; cayleyref18.Complete; Equality of tables and words; a copy by append; slices.Clone; letter; coset.Standard; cayleyref18.Standard; coset.Reps and cayleyref18.Reps; word.Reduce and cayleyref02.Reduce; Appending a readable list; slices.Concat; word.Invert, Mul and cayleyref02.Invert, Mul. -/
import Derived.Test.YtmmbmhjdnlmedaaTsCS2
import Derived.Test.YtmmbmhjdnlmedaaTsCS1
import Derived.WalkMore
namespace Go.Proofs
open Go.RowKit Go.Shelf Go.Proofs.Ct
/-- block b holds the numbers x (and may be longer) -/
def XsAt (w : World) (b : Nat) (x : List Int) : Prop := ∃ C : Array Value, w.heap[b]? = some (.cells C 3 (0, 0)) ∧ x.length ≤ C.size ∧ ∀ k, k < x.length → C[k]? = some (.int .i64 (x.getD k 0))
theorem getD_set {α : Type} {d : α} (l : List α) (k j : Nat) (v : α) : (l.set k v).getD j d = if k = j ∧ k < l.length then v else l.getD j d := by
  rw [List.getD_eq_getElem?_getD, List.getElem?_set, List.getD_eq_getElem?_getD]
  by_cases h : k = j
  · subst h
    by_cases h2 : k < l.length <;> simp [h2]
  · simp [h]
section
variable {w w' : World} {b k : Nat} {x y : List Int}
theorem XsAt.lt (h : XsAt w b x) : b < w.heap.size := by obtain ⟨C, hC, -⟩ := h; exact (Array.getElem?_eq_some_iff.1 hC).1
theorem XsAt.keep (h : XsAt w b x) (hk : w'.heap[b]? = w.heap[b]?) : XsAt w' b x := by
  obtain ⟨C, hC, h2, h3⟩ := h
  exact ⟨C, hk.trans hC, h2, h3⟩
theorem XsAt.below (h : XsAt w b x) (hb : Below w.heap.size w w') : XsAt w' b x := h.keep (hb.block _ h.lt)
theorem XsAt.grown {row : Option Nat} (h : XsAt w b x) (hg : w.grownBy w' row) (hr : row ≠ some b) : XsAt w' b x := h.keep (hg.block _ h.lt (Ne.symm hr))
theorem XsAt.cell (h : XsAt w b x) (hk : k < x.length) : w.cell? ⟨b, k, none⟩ = some (.int .i64 (x.getD k 0)) := by
  obtain ⟨C, hC, -, h3⟩ := h
  rw [cell_of_row _ _ _ _ _ _ hC]; exact h3 k hk
theorem XsAt.frozen (h : XsAt w b x) (k : Nat) : w.frozen? ⟨b, k, none⟩ = false := by
  obtain ⟨C, hC, -⟩ := h
  simp [World.frozen?, hC]
theorem XsAt.set (h : XsAt w b x) (hk : k < x.length) (v : Int) : XsAt (w.setCell ⟨b, k, none⟩ (.int .i64 v)) b (x.set k v) := by
  obtain ⟨C, hC, h2, h3⟩ := h
  refine ⟨C.setIfInBounds k (.int .i64 v), by simp [World.setCell, Array.getElem?_modify, hC], by simpa using h2, fun j hj => ?_⟩
  have hj' : j < x.length := by simpa using hj
  rw [getD_set]
  by_cases e : k = j
  · subst e
    rw [if_pos ⟨rfl, hk⟩]
    have : k < C.size := by omega
    simp [this]
  · rw [if_neg (fun hh => e hh.1), Array.getElem?_setIfInBounds_ne e]
    exact h3 j hj'
theorem XsAt.ints (h : XsAt w b x) {n cap : Nat} (hn : x.length = n) (hc : n ≤ cap) (hm : cap ≤ 9223372036854775807) (hf : Fits x) : IntsAt w (.slice (some ⟨b, 0, none⟩) n cap) x := by
  refine ⟨⟨_, n, cap, rfl, by simp [_root_.Go.Proofs.ints, hn], hc, by simpa [maxLen] using hm, fun _ => ⟨b, 0, rfl, fun j v hv => ?_⟩⟩, hf⟩
  have hj : j < x.length := by have := (List.getElem?_eq_some_iff.1 hv).1; simpa [_root_.Go.Proofs.ints] using this
  rw [Nat.zero_add, h.cell hj, ← hv]
  simp [_root_.Go.Proofs.ints, hj, List.getD_eq_getElem?_getD]
theorem grown_setCell (w : World) (b k : Nat) (v : Value) : w.grownBy (w.setCell ⟨b, k, none⟩ v) (some b) :=
  ⟨rfl, rfl, rfl, by simp [World.setCell], fun i _ hne => Below.heap_setCell w ⟨b, k, none⟩ v i (fun e => hne (by rw [e]))⟩
end
/-- rows of the call's own, in type t with elements of type e -/
structure OutSt (e : TypeId) (F : Nat → Prop) (w0 wr : World) (vout : Value) (rows : List (List Int)) : Prop where
  below : Below w0.heap.size w0 wr
  out : OwnT e w0.heap.size F wr vout rows
  fs : ∀ k, F k → w0.heap.size ≤ k ∧ k < wr.heap.size ∧ ∃ C, wr.heap[k]? = some (.cells C 3 (0, 0))
structure OutSt2 (e : TypeId) (F : Nat → Prop) (w0 wr : World) (vout vr : Value) (rows : List (List Int)) (x : List Int) : Prop where
  st : OutSt e F w0 wr vout rows
  row : OwnI w0.heap.size wr vr x
  ap : ∀ r, vr.ownBlock = some r → ¬ F r
theorem OutSt.nil (e : TypeId) {w0 wr : World} (h : Below w0.heap.size w0 wr) : OutSt e (fun _ => False) w0 wr (.slice none 0 0) [] :=
  ⟨h, ⟨[], World.ownsRow_nil _ _ _ _, RowsF.nil _ _⟩, fun _k hk => hk.elim⟩
theorem OutSt.grown {e : TypeId} {F : Nat → Prop} {w0 wr w' : World} {vout : Value} {rows : List (List Int)} {row : Option Nat} (h : OutSt e F w0 wr vout rows) (hg : wr.grownBy w' row)
    (h0 : ∀ r, row = some r → w0.heap.size ≤ r ∧ ¬ F r ∧ vout.ownBlock ≠ some r) : OutSt e F w0 w' vout rows := by
  have hub := h.out.block
  refine ⟨h.below.grown hg h.below.size (fun k hk => (h0 k hk).1), h.out.keep (fun r hr => ?_) (Ag.grown hg fun k hk => ⟨(h.fs k hk).2.1, fun e => (h0 _ e).2.1 hk⟩) (fun _ h => h), fun k hk => ?_⟩
  · obtain ⟨-, C, hC⟩ := hub r hr
    exact hg.block r (Array.getElem?_eq_some_iff.1 hC).1 (fun e => (h0 r e.symm).2.2 hr)
  · obtain ⟨h1, h2, C, hC⟩ := h.fs k hk
    exact ⟨h1, Nat.lt_of_lt_of_le h2 hg.size, C, grown_cells hg hC (fun e => (h0 _ e).2.1 hk)⟩
theorem OutSt.below' {e : TypeId} {F : Nat → Prop} {w0 wr w' : World} {vout : Value} {rows : List (List Int)} (h : OutSt e F w0 wr vout rows) (hb : Below wr.heap.size wr w') : OutSt e F w0 w' vout rows :=
  h.grown (row := none) ⟨hb.os, hb.tape, hb.output, hb.size, fun k hk _ => hb.block k hk⟩ (fun r hr => by cases hr)
theorem OutSt2.below' {e : TypeId} {F : Nat → Prop} {w0 wr w' : World} {vout vr : Value} {rows : List (List Int)} {x : List Int} (h : OutSt2 e F w0 wr vout vr rows x) (hb : Below wr.heap.size wr w') : OutSt2 e F w0 w' vout vr rows x :=
  ⟨h.st.below' hb, owns_below h.row hb, h.ap⟩
/-- a row that another call laid joins -/
theorem OutSt.with_row {e : TypeId} {F : Nat → Prop} {w0 wr w' : World} {vout vr : Value} {rows : List (List Int)} {x : List Int} (h : OutSt e F w0 wr vout rows) (hb : Below wr.heap.size wr w') (hr : OwnI wr.heap.size w' vr x) : OutSt2 e F w0 w' vout vr rows x :=
  ⟨h.below' hb, owns_base hr h.below.size, fun r hr' hF => by
    have h1 := (owns_block hr r hr').1
    have h2 := (h.fs r hF).2.1
    omega⟩
theorem OutSt2.add {e : TypeId} (he : e ≠ 3) (t : TypeId) (ht : Try.prog.underlying t = some (.slice 3)) {F : Nat → Prop} {w0 wr : World} {vout vr : Value} {rows : List (List Int)} {x : List Int} (h : OutSt2 e F w0 wr vout vr rows x) (z : Int) (hx : x.length ≤ 9000000) :
    ∃ A' c' w', (Builtin.append_ #[t, t] t #[vr, .slice (some ⟨wr.heap.size, 0, none⟩) 1 1]).run Try.prog (wr.alloc (.cells #[.int .i64 z] 3)) = .ok (.slice A' (x.length + 1) c') w' ∧ OutSt2 e F w0 w' vout (.slice A' (x.length + 1) c') rows (x ++ [z]) := by
  obtain ⟨A', c', w', hr, ho, hg, hw⟩ := push_int t t ht wr w0.heap.size vr x h.row z (by omega) h.st.below.size
  have hrb := owns_block h.row
  have hst : OutSt e F w0 w' vout rows := h.st.grown hg fun r hr => by
    obtain ⟨h1, C, hC⟩ := hrb r hr
    refine ⟨h1, h.ap r hr, fun e' => ?_⟩
    obtain ⟨-, C', hC'⟩ := h.st.out.block r e'
    rw [hC] at hC'
    injection hC' with h5
    injection h5 with _ h6 _
    exact he h6.symm
  refine ⟨A', c', w', hr, hst, ho, fun r hr => ?_⟩
  rcases hw with hw | ⟨r', hr', hge⟩
  · rw [hw] at hr
    exact h.ap r hr
  · have e : r' = r := by rw [hr'] at hr; exact Option.some.inj hr
    subst e
    exact fun e => absurd (h.st.fs _ e).2.1 (by omega)
theorem OutSt2.done {t e : TypeId} (he : e ≠ 3) (ht : Try.prog.underlying t = some (.slice e)) (hi : ∃ i, Try.prog.info? e = some i ∧ i.zero = some (.slice none 0 0) ∧ i.size = 1 ∧ i.bytes = 24) {F : Nat → Prop} {w0 wr : World} {vout : Value} {A : Option Addr} {n c : Nat} {rows : List (List Int)} {x : List Int} (h : OutSt2 e F w0 wr vout (.slice A n c) rows x) (hf : Fits x) (hl : rows.length ≤ 9000000) :
    ∃ A' c' w', (Builtin.append_ #[t, t] t #[vout, .slice (some ⟨wr.heap.size, 0, none⟩) 1 1]).run Try.prog (wr.alloc (.cells #[.slice A n c] e)) = .ok (.slice A' (rows.length + 1) c') w' ∧
      OutSt e (fun k => F k ∨ (Value.slice A n c).ownBlock = some k) w0 w' (.slice A' (rows.length + 1) c') (rows ++ [x]) := by
  have hub := h.st.out.block
  have hrb := owns_block h.row
  have hne : ∀ {k : Nat} {C : Array Value} {fr : Nat × Nat}, wr.heap[k]? = some (.cells C 3 fr) → vout.ownBlock ≠ some k := fun {k C fr} hc e' => by
    obtain ⟨-, C', hC'⟩ := hub k e'
    rw [hc] at hC'
    injection hC' with h5
    injection h5 with _ h6 _
    exact he h6.symm
  have hF2 : ∀ k, (F k ∨ (Value.slice A n c).ownBlock = some k) → k < wr.heap.size ∧ vout.ownBlock ≠ some k := fun k hk => by
    rcases hk with hk | hk
    · obtain ⟨h1, h2, C, hC⟩ := h.st.fs k hk
      exact ⟨h2, hne hC⟩
    · obtain ⟨h1, C, hC⟩ := hrb k hk
      exact ⟨(Array.getElem?_eq_some_iff.1 hC).1, hne hC⟩
  obtain ⟨A', c', w', hr, ho', hg, hw⟩ := push_row (ty := t) ht hi wr w0.heap.size (fun k => F k ∨ (Value.slice A n c).ownBlock = some k) vout rows (h.st.out.keep (fun _ _ => rfl) (Ag.refl _ _) (fun k hk => .inl hk)) A n c x ((IntsF.of_own h.row hf).mono fun k hk => .inr hk) hF2 (by omega) h.st.below.size
  refine ⟨A', c', w', hr, ⟨h.st.below.grown hg h.st.below.size (fun k hk => (hub k hk).1), ho', fun k hk => ?_⟩⟩
  have h2 := (hF2 k hk).1
  rcases hk with hk | hk
  · obtain ⟨h1, _, C, hC⟩ := h.st.fs k hk
    exact ⟨h1, Nat.lt_of_lt_of_le h2 hg.size, C, grown_cells hg hC (hne hC)⟩
  · obtain ⟨h1, C, hC⟩ := hrb k hk
    exact ⟨h1, Nat.lt_of_lt_of_le h2 hg.size, C, grown_cells hg hC (hne hC)⟩
end Go.Proofs
namespace Go.Proofs
open Go.RowKit Go.Shelf Go.Proofs.Ct
set_option maxRecDepth 100000 in
set_option maxHeartbeats 400000 in
theorem same18_any (w : World) (va vb : Value) (A B : List (List Int)) (ha : Tab w va A) (hb : Tab w vb B) :
    Calls Try.prog 18 #[va, vb] w fun e w' => e = .returned (.bool (decide (A = B))) ∧ ∃ q, w' = w.drewN q := by
  obtain ⟨A0, ca, rfl, ha1, ha2, ha3⟩ := ha.open_
  obtain ⟨B0, cb, rfl, hb1, hb2, hb3⟩ := hb.open_
  have HA := Lib.hid ha3
  have HB := Lib.hid hb3
  clear ha hb ha3 hb3
  by_cases hl : A.length = B.length
  · have d1 : ((A.length : Int) != (B.length : Int)) = false := by simp; omega
    have d2 : (A.length != B.length) = false := by simp; omega
    have HL := Lib.hid hl
    clear hl
    go_enter Try.func18, Try.ntmps18
    go_wp2_with fail
    go_loopw [5] (fun i wr => ∃ k : Nat, k ≤ A.length ∧ i = .int .i64 k ∧ (∀ j, j < k → A.getD j [] = B.getD j []) ∧ ∃ q, wr = w.drewN q) (fun i _ => A.length - (intOf i).toNat)
    case atStart => exact ⟨0, Nat.zero_le _, rfl, fun j hj => absurd hj (by omega), 0, rfl⟩
    case round =>
      obtain ⟨k, hk, rfl, hz, q, rfl⟩ := hrel
      have HZ := Lib.hid hz
      clear hz
      by_cases hlt : k < A.length
      · obtain ⟨b1, o1, rfl, hc1⟩ := HA.out (by omega)
        obtain ⟨b2, o2, rfl, hc2⟩ := HB.out (by rw [← HL.out]; omega)
        obtain ⟨u1, hu1, hr1⟩ := hc1 k hlt
        obtain ⟨u2, hu2, hr2⟩ := hc2 k (by rw [← HL.out]; omega)
        obtain ⟨A3, c3, rfl, hd1, hd2, hd⟩ := hr1.open_
        obtain ⟨A4, c4, rfl, he1, he2, he⟩ := hr2.open_
        have hk0 : (0 : Int) ≤ (k : Int) := Int.natCast_nonneg _
        have hkb : (k : Int) < (B.length : Int) := by rw [← HL.out]; omega
        have hka : (k : Int) < (A.length : Int) := by omega
        have HN := Lib.hid (fun h => getD_ne (A := A) (B := B) (d := []) (k := k) h)
        generalize hxe : A.getD k [] = x at *
        generalize hye : B.getD k [] = y at *
        have HXE := Lib.hid hxe
        have HYE := Lib.hid hye
        clear hxe hye
        have HD := Lib.hid hd
        have HE := Lib.hid he
        clear hc1 hc2 hr1 hr2 hd he
        by_cases hxy : x.length = y.length
        · have d3 : ((x.length : Int) != (y.length : Int)) = false := by simp; omega
          have d4 : (x.length != y.length) = false := by simp; omega
          have HX := Lib.hid hxy
          clear hxy
          go_wp2_with fail
          go_quiet (fail)
          go_wp2_with fail
          go_loopw [6] (fun i wr => ∃ j : Nat, j ≤ x.length ∧ i = .int .i64 j ∧ (∀ t, t < j → x.getD t 0 = y.getD t 0) ∧ ∃ q, wr = w.drewN q) (fun i _ => x.length - (intOf i).toNat)
          case atStart => exact ⟨0, Nat.zero_le _, rfl, fun j hj => absurd hj (by omega), (by first | exact ⟨_, rfl⟩ | exact ex_drewN)⟩
          case round =>
            obtain ⟨j, hj, rfl, hzj, qj, rfl⟩ := hrel
            have HZJ := Lib.hid hzj
            clear hzj
            by_cases hjl : j < x.length
            · obtain ⟨b3, o3, rfl, hx⟩ := HD.out (by omega)
              obtain ⟨b4, o4, rfl, hy⟩ := HE.out (by rw [← HX.out]; omega)
              have hx1 := hx j hjl
              have hy1 := hy j (by rw [← HX.out]; omega)
              have hj0 : (0 : Int) ≤ (j : Int) := Int.natCast_nonneg _
              have hjb : (j : Int) < (y.length : Int) := by rw [← HX.out]; omega
              have hja : (j : Int) < (x.length : Int) := by omega
              have HM := Lib.hid (fun h => getD_ne (A := x) (B := y) (d := 0) (k := j) h)
              clear hx hy
              generalize hse : x.getD j 0 = s at *
              generalize hte : y.getD j 0 = t at *
              have HSE := Lib.hid hse
              have HTE := Lib.hid hte
              clear hse hte
              by_cases hst : s = t
              · have d5 : (s != t) = false := by simpa using hst
                have HS := Lib.hid hst
                clear hst
                go_wp2_with fail
                go_quiet (fail)
                go_wp2_with fail
                go_roundw
                case rel => exact ⟨j + 1, by omega, by go_num, all_succ HZJ.out (by rw [HSE.out, HTE.out]; exact HS.out), (by first | exact ⟨_, rfl⟩ | exact ex_drewN)⟩
                case measure => simp [intOf]; omega
              · have d5 : (s != t) = true := by simpa using hst
                have HS := Lib.hid hst
                clear hst
                go_wp2_with fail
                go_quiet (fail)
                go_wp2_with fail
                go_ret
                exact ⟨ret_bool (by simpa using HN.out (HM.out HS.out)), (by first | exact ⟨_, rfl⟩ | exact ex_drewN)⟩
            · obtain rfl : j = x.length := by omega
              go_wp2_with fail
              go_roundw
              case rel => exact ⟨k + 1, by omega, by go_num, all_succ HZ.out (by rw [HXE.out, HYE.out]; exact getD_ext HX.out HZJ.out), _, rfl⟩
              case measure => simp [intOf]; omega
        · have d3 : ((x.length : Int) != (y.length : Int)) = true := by simp; omega
          have d4 : (x.length != y.length) = true := by simp; omega
          have HX := Lib.hid hxy
          clear hxy
          go_wp2_with fail
          go_quiet (fail)
          go_wp2_with fail
          go_ret
          exact ⟨ret_bool (by simpa using HN.out (fun e => HX.out (by rw [e]))), (by first | exact ⟨_, rfl⟩ | exact ex_drewN)⟩
      · obtain rfl : k = A.length := by omega
        go_wp2_with fail
        go_ret
        exact ⟨ret_bool (by simpa using getD_ext HL.out HZ.out), _, rfl⟩
  · have d1 : ((A.length : Int) != (B.length : Int)) = true := by simp; omega
    have d2 : (A.length != B.length) = true := by simp; omega
    have HL := Lib.hid hl
    clear hl
    go_enter Try.func18, Try.ntmps18
    go_wp2_with fail
    go_ret
    exact ⟨ret_bool (by simpa using fun e => HL.out (by rw [e])), 0, rfl⟩
set_option maxRecDepth 100000 in
set_option maxHeartbeats 400000 in
theorem equal143_any (w : World) (va vb : Value) (x y : List Int) (ha : IntsAt w va x) (hb : IntsAt w vb y) :
    Calls Try.prog 69 #[va, vb] w fun e w' => e = .returned (.bool (decide (x = y))) ∧ ∃ q, w' = w.drewN q := by
  obtain ⟨A3, c3, rfl, hd1, hd2, hd⟩ := ha.open_
  obtain ⟨A4, c4, rfl, he1, he2, he⟩ := hb.open_
  have HD := Lib.hid hd
  have HE := Lib.hid he
  clear ha hb hd he
  have HN := Lib.hid (fun (h : x.length ≠ y.length) (e : x = y) => h (by rw [e]))
  by_cases hxy : x.length = y.length
  · have d3 : ((x.length : Int) != (y.length : Int)) = false := by simp; omega
    have d4 : (x.length != y.length) = false := by simp; omega
    have HX := Lib.hid hxy
    clear hxy
    go_enter Try.func69, Try.ntmps69
    go_wp2_with fail
    go_loopw [5, 13] (fun _ i wr => ∃ j : Nat, j ≤ x.length ∧ i = .int .i64 j ∧ (∀ t, t < j → x.getD t 0 = y.getD t 0) ∧ ∃ q, wr = w.drewN q) (fun _ i _ => x.length - (intOf i).toNat)
    case atStart => exact ⟨0, Nat.zero_le _, rfl, fun j hj => absurd hj (by omega), 0, rfl⟩
    case round =>
      obtain ⟨j, hj, rfl, hzj, qj, rfl⟩ := hrel
      have HZJ := Lib.hid hzj
      clear hzj
      by_cases hjl : j < x.length
      · obtain ⟨b3, o3, rfl, hx⟩ := HD.out (by omega)
        obtain ⟨b4, o4, rfl, hy⟩ := HE.out (by rw [← HX.out]; omega)
        have hx1 := hx j hjl
        have hy1 := hy j (by rw [← HX.out]; omega)
        have hj0 : (0 : Int) ≤ (j : Int) := Int.natCast_nonneg _
        have hjb : (j : Int) < (y.length : Int) := by rw [← HX.out]; omega
        have hja : (j : Int) < (x.length : Int) := by omega
        have HM := Lib.hid (fun h => getD_ne (A := x) (B := y) (d := 0) (k := j) h)
        clear hx hy
        generalize hse : x.getD j 0 = s at *
        generalize hte : y.getD j 0 = t at *
        have HSE := Lib.hid hse
        have HTE := Lib.hid hte
        clear hse hte
        by_cases hst : s = t
        · have d5 : (s != t) = false := by simpa using hst
          have HS := Lib.hid hst
          clear hst
          go_wp2_with fail
          go_quiet (fail)
          go_wp2_with fail
          go_roundw
          case rel => exact ⟨j + 1, by omega, by go_num, all_succ HZJ.out (by rw [HSE.out, HTE.out]; exact HS.out), (by first | exact ⟨_, rfl⟩ | exact ex_drewN)⟩
          case measure => simp [intOf]; omega
        · have d5 : (s != t) = true := by simpa using hst
          have HS := Lib.hid hst
          clear hst
          go_wp2_with fail
          go_quiet (fail)
          go_wp2_with fail
          go_ret
          exact ⟨ret_bool (by simpa using HM.out HS.out), (by first | exact ⟨_, rfl⟩ | exact ex_drewN)⟩
      · obtain rfl : j = x.length := by omega
        go_wp2_with fail
        go_ret
        exact ⟨ret_bool (by simpa using getD_ext HX.out HZJ.out), (by first | exact ⟨_, rfl⟩ | exact ex_drewN)⟩
  · have d3 : ((x.length : Int) != (y.length : Int)) = true := by simp; omega
    have d4 : (x.length != y.length) = true := by simp; omega
    have HX := Lib.hid hxy
    clear hxy
    go_enter Try.func69, Try.ntmps69
    go_wp2_with fail
    go_ret
    exact ⟨ret_bool (by simpa using HN.out HX.out), 0, rfl⟩
theorem src_ints {t : TypeId} (ht : Try.prog.underlying t = some (.slice 3)) {w : World} {v : Value} {y : List Int} (h : IntsAt w v y) : Src Try.prog 1 t v y.length (ints y) w := by
  obtain ⟨⟨A, n, cap, rfl, hn, hc, hm, hr⟩, -⟩ := h
  have hl : n = y.length := by simpa [ints] using hn
  subst hl
  rcases Nat.eq_zero_or_pos y.length with h0 | h0
  · obtain rfl : y = [] := List.length_eq_zero_iff.1 h0
    cases A with
    | none => exact Src.ofNil w ht cap
    | some a => exact Src.ofSlice w ht a 0 cap [] rfl (fun j u hu => by simp at hu) (fun u hu => by cases hu)
  · obtain ⟨b, off, rfl, hrow⟩ := hr h0
    exact Src.ofSlice w ht _ _ cap (ints y) (by simp [ints]) (fun j u hu => by rw [Addr.add_lit]; exact hrow j u hu) (fun u hu => by obtain ⟨x, -, rfl⟩ := List.mem_map.1 hu; rfl)
/-- append([]int{}, y...): the copy lies in a block of its own -/
theorem run_copy {t : TypeId} (ht : Try.prog.underlying t = some (.slice 3)) {w : World} {v : Value} {y : List Int} (h : IntsAt w v y) (hl : y.length ≤ 9000000) :
    ∃ A cap w', (Builtin.append_ #[t, t] t #[.slice (some ⟨w.heap.size, 0, none⟩) 0 0, v]).run Try.prog (w.alloc (.cells #[] 3)) = .ok (.slice A y.length cap) w' ∧
      Below w.heap.size w w' ∧ OwnI w.heap.size w' (.slice A y.length cap) y := by
  obtain ⟨i, hi, hz, hs, hby⟩ := info3p
  have hal : Below w.heap.size w (w.alloc (.cells #[] 3)) := (Below.refl _ _).alloc (Nat.le_refl _) _
  have hnew := heap_alloc_new w (.cells #[] 3)
  have hsz : (w.alloc (.cells #[] 3)).heap.size = w.heap.size + 1 := by simp
  have hsrc := src_ints ht (h.below hal)
  generalize w.alloc (.cells #[] 3) = W at *
  rcases Nat.eq_zero_or_pos y.length with h0 | h0
  · obtain rfl : y = [] := List.length_eq_zero_iff.1 h0
    have := run_append_room_src (P := Try.prog) W t t t 3 i ht hi w.heap.size 0 0 0 v 0 [] (by rw [hs]; exact hsrc) (Nat.le_refl _) (fun j hj => absurd hj (by simp)) (fun j hj => absurd hj (by simp))
    exact ⟨_, 0, W, this, hal, rfl, .inr ⟨w.heap.size, 0, #[], rfl, Nat.le_refl _, hnew, Nat.le_refl _, by simp, rfl, rfl⟩⟩
  · have hold : (Builtin.firstCells i.size 0 (.slice (some ⟨w.heap.size, 0, none⟩) 0 0)).run Try.prog W.drew = .ok ([] : List Value).toArray W.drew := by
      rw [hs]
      exact run_firstCells_some W.drew 1 0 ⟨w.heap.size, 0, none⟩ 0 0 [] rfl (fun j u hu => by simp at hu)
    have hg := run_append_grow_src (P := Try.prog) W t t t 3 i (.int .i64 0) ht hi hz (some ⟨w.heap.size, 0, none⟩) 0 0 [] hold v y.length (ints y) (by rw [hs]; exact hsrc) (by omega) (by omega) (growslice_fits (by omega) (by rw [hby]; omega))
    simp only [Nat.zero_add, List.nil_append] at hg
    have hcm := grownCap_le_maxLen W y.length 0 3 (by unfold maxLen; omega)
    have hcg := grownCap_ge W y.length 0 3
    refine ⟨_, _, _, hg, hal.trans ⟨rfl, rfl, rfl, by simp, fun k hk => (Below.heap_alloc W.drew _ k (by show k < W.heap.size; omega))⟩, by simp [ints], .inr ⟨W.heap.size, _, _, rfl, by omega, heap_alloc_new W.drew _, hcg, hcm, ?_, ?_⟩⟩
    · simp [ints, size_zeroCells, Value.cells]
      omega
    · simp [ints]
theorem eqnil_none (w : World) (n c : Nat) : (binOp .eql 24 (.slice none n c) (.slice none 0 0)).run Try.prog w = .ok (.bool true) w := by kernel_rfl
theorem eqnil_some (w : World) (a : Addr) (n c : Nat) : (binOp .eql 24 (.slice (some a) n c) (.slice none 0 0)).run Try.prog w = .ok (.bool false) w := by kernel_rfl
set_option maxRecDepth 100000 in
theorem clone71_any (w : World) (v : Value) (xs : List Int) (h : IntsAt w v xs) (hl : xs.length ≤ 9000000) :
    Calls Try.prog 41 #[v] w fun e w' => ∃ A c, e = .returned (.slice A xs.length c) ∧ OwnI w.heap.size w' (.slice A xs.length c) xs ∧ Below w.heap.size w w' := by
  obtain ⟨A0, c0, w', hr, hb, ho⟩ := run_copy Try.underlying24 h hl
  have HR := Lib.hid hr
  have HB := Lib.hid hb
  have HO := Lib.hid ho
  obtain ⟨A, cap, rfl, hcap, hmax, hc⟩ := h.open_
  cases A with
  | none =>
    have h0 : xs = [] := by
      rcases Nat.eq_zero_or_pos xs.length with h0 | h0
      · exact List.length_eq_zero_iff.1 h0
      · obtain ⟨b, off, hx, -⟩ := hc h0
        cases hx
    clear hr hb ho hc h HR HB HO
    subst h0
    have hq := eqnil_none w
    go_enter Try.func41, Try.ntmps41
    go_wp2_with fail
    go_ret
    exact ⟨none, 0, rfl, World.ownsRow_nil _ _ _ _, Below.refl _ _⟩
  | some a =>
    clear hr hb ho hc h
    have hq := eqnil_some w
    go_enter Try.func41, Try.ntmps41
    go_wp2_with ((with_reducible refine wpList_sel 7 ?_); refine wpList_val rfl (r_app (.tmp 5) (.tmp 6) 24 rfl rfl rfl HR.out) ?_)
    go_ret
    exact ⟨_, _, rfl, HO.out, HB.out⟩
end Go.Proofs
namespace Go.Proofs
open Go.RowKit Go.Shelf Go.Proofs.Ct
/-- u reads as xs by blocks from base on -/
def TabB (base : Nat) (w : World) (u : Value) (xs : List (List Int)) : Prop := ∀ w' : World, (∀ k, base ≤ k → k < w.heap.size → w'.heap[k]? = w.heap[k]?) → Tab w' u xs
theorem TabB.at_ {base : Nat} {w : World} {u : Value} {xs : List (List Int)} (h : TabB base w u xs) : Tab w u xs := h w fun _ _ _ => rfl
theorem TabB.nil {base : Nat} {w : World} : TabB base w (.slice none 0 0) [] := fun _ _ => tab_nil
theorem TabB.keep {base : Nat} {w w' : World} {u : Value} {xs : List (List Int)} (h : TabB base w u xs) (hs : w.heap.size ≤ w'.heap.size) (hk : ∀ k, base ≤ k → k < w.heap.size → w'.heap[k]? = w.heap[k]?) : TabB base w' u xs := fun w'' h'' => h w'' fun k h1 h2 => (h'' k h1 (by omega)).trans (hk k h1 h2)
theorem StdSt.first {w0 w : World} {bm : Nat} {b : Int} (hB : Below w0.heap.size w0 w) (hbm : w0.heap.size ≤ bm) (hm : MapI w bm [b]) (_hb : I64 b) :
    StdSt bm (fun _ => False) w0 ((w.alloc (.cells #[.int .i64 b] 3)).alloc (.cells #[] 23)) (.slice (some ⟨w.heap.size, 0, none⟩) 1 1) (.slice (some ⟨w.heap.size + 1, 0, none⟩) 0 0) [b] [] := by
  have h1 := hB.size
  have hg : w.grownBy ((w.alloc (.cells #[.int .i64 b] 3)).alloc (.cells #[] 23)) none := (World.grownBy_alloc w _ none).trans (World.grownBy_alloc _ _ none)
  have e1 := allocs_get [.cells #[.int .i64 b] 3, .cells #[] 23] w 0 _ rfl
  have e2 := allocs_get [.cells #[.int .i64 b] 3, .cells #[] 23] w 1 _ rfl
  refine ⟨hB.grown hg h1 (fun k hk => by cases hk), hbm, hm.kept hg (by simp), ⟨rfl, .inr ⟨w.heap.size, 1, #[.int .i64 b], rfl, h1, e1, Nat.le_refl _, by simp [maxLen], rfl, rfl⟩⟩, ⟨[], ⟨rfl, .inr ⟨w.heap.size + 1, 0, #[], rfl, by omega, e2, Nat.le_refl _, by simp, rfl, rfl⟩⟩, RowsF.nil _ _⟩, fun k hk => hk.elim⟩
end Go.Proofs
namespace Go.Proofs
open Go.RowKit Go.Shelf Go.Proofs.Ct
def numL (o : List Int) (n : Nat) : List Int := (List.range n).map fun (i : Nat) => if o.contains (i : Int) then numOf o (i : Int) else -1
def fillL (i n : Nat) : List Int := (List.range n).map fun (j : Nat) => if j < i then -1 else 0
theorem length_numL (o : List Int) (n : Nat) : (numL o n).length = n := by simp [numL]
theorem length_fillL (i n : Nat) : (fillL i n).length = n := by simp [fillL]
theorem map_range_set {f g : Nat → Int} {n k : Nat} {v : Int} (hv : g k = v) (ho : ∀ j, j < n → j ≠ k → g j = f j) : ((List.range n).map f).set k v = (List.range n).map g := by
  refine getD_ext (d := 0) (by simp) fun j hj => ?_
  have hj' : j < n := by simpa using hj
  rw [getD_set]
  by_cases e : k = j
  · subst e
    rw [if_pos ⟨rfl, by simpa using hj'⟩]
    simp [List.getD_eq_getElem?_getD, hj', hv]
  · rw [if_neg (fun h => e h.1)]
    simp [List.getD_eq_getElem?_getD, hj', ho j hj' (Ne.symm e)]
theorem fillL_full (n : Nat) : fillL n n = numL [] n := by
  unfold fillL numL
  apply List.map_congr_left
  intro j hj
  simp at hj
  simp [hj]
theorem numL_set {o : List Int} {n s : Nat} (hs : (s : Int) ∉ o) : (numL o n).set s o.length = numL (o ++ [(s : Int)]) n := by
  refine map_range_set ?_ fun j _ hne => ?_
  · rw [if_pos (by simp), numOf_new hs (List.prefix_refl _)]
  · have hne' : (j : Int) ≠ (s : Int) := by omega
    by_cases hm : (j : Int) ∈ o
    · rw [if_pos (by simp [hm]), if_pos (by simpa using hm), idxOf_pre (List.prefix_append _ _) hm]
    · rw [if_neg (by simp [hm, hne']), if_neg (by simpa using hm)]
/-- the numbers in a block, the order in a slice of its own -/
structure NumSt (nb n : Nat) (w0 wr : World) (vo : Value) (o : List Int) : Prop where
  below : Below w0.heap.size w0 wr
  nb0 : w0.heap.size ≤ nb
  num : XsAt wr nb (numL o n)
  ord : OwnI w0.heap.size wr vo o
  ap : vo.ownBlock ≠ some nb
theorem NumSt.visit {nb n : Nat} {w0 wr : World} {vo : Value} {o : List Int} (h : NumSt nb n w0 wr vo o) {s : Nat} (hs : s < n) (hn : (s : Int) ∉ o) (ho : o.length ≤ 8000000) :
    ∃ A' c' w', (Builtin.append_ #[23, 23] 23 #[vo, .slice (some ⟨wr.heap.size, 0, none⟩) 1 1]).run Try.prog ((wr.setCell ⟨nb, s, none⟩ (.int .i64 (o.length : Int))).alloc (.cells #[.int .i64 (s : Int)] 3)) = .ok (.slice A' (o.length + 1) c') w' ∧
      NumSt nb n w0 w' (.slice A' (o.length + 1) c') (o ++ [(s : Int)]) := by
  have hg1 := grown_setCell wr nb s (.int .i64 (o.length : Int))
  have hx := h.num.set (k := s) (by rw [length_numL]; exact hs) (o.length : Int)
  rw [numL_set hn] at hx
  have hor : OwnI w0.heap.size (wr.setCell ⟨nb, s, none⟩ (.int .i64 (o.length : Int))) vo o := owns_keep h.ord fun r hr =>
    hg1.block r (owns_lt h.ord hr) (fun e => h.ap (by rw [hr]; exact e))
  have hB1 : Below w0.heap.size w0 (wr.setCell ⟨nb, s, none⟩ (.int .i64 (o.length : Int))) := h.below.grown hg1 h.below.size (fun k hk => by cases hk; exact h.nb0)
  have hsz : (wr.setCell ⟨nb, s, none⟩ (.int .i64 (o.length : Int))).heap.size = wr.heap.size := by simp [World.setCell]
  generalize wr.setCell ⟨nb, s, none⟩ (.int .i64 (o.length : Int)) = W at *
  obtain ⟨A', c', w', hr, ho', hg, hw⟩ := push_int 23 23 Try.underlying23 W w0.heap.size vo o hor (s : Int) (by omega) hB1.size
  rw [hsz] at hr
  refine ⟨A', c', w', hr, hB1.grown hg hB1.size (fun k hk => (owns_block hor k hk).1), h.nb0, hx.grown hg h.ap, ho', fun e => ?_⟩
  rcases hw with hw | ⟨r', hr', hge⟩
  · exact h.ap (hw.symm.trans e)
  · rw [hr'] at e
    have : r' = nb := Option.some.inj e
    have := hx.lt
    omega
theorem made3 (n : Nat) : madeCells (Value.int .i64 0).cells n = Array.replicate n (.int .i64 0) := by
  apply Array.ext_getElem?
  intro k
  simp only [madeCells, Value.cells, Array.getElem?_map, Array.getElem?_range, Array.getElem?_replicate]
  by_cases h : k < n
  · simp [h, Nat.mod_one]
  · simp [h]
theorem NumSt.first {n nb : Nat} {w0 w : World} {b : Nat} (hB : Below w0.heap.size w0 w) (hnb : w0.heap.size ≤ nb) (hx : XsAt w nb (fillL n n)) (hb : b < n) :
    NumSt nb n w0 ((w.alloc (.cells #[.int .i64 (b : Int)] 3)).setCell ⟨nb, b, none⟩ (.int .i64 0)) (.slice (some ⟨w.heap.size, 0, none⟩) 1 1) [(b : Int)] := by
  have h1 := hB.size
  have h2 := hx.lt
  have hal : Below w.heap.size w (w.alloc (.cells #[.int .i64 (b : Int)] 3)) := (Below.refl _ _).alloc (Nat.le_refl _) _
  have hg := grown_setCell (w.alloc (.cells #[.int .i64 (b : Int)] 3)) nb b (.int .i64 0)
  have hx2 := (hx.below hal).set (k := b) (by rw [length_fillL]; exact hb) 0
  rw [fillL_full] at hx2
  have hx3 := numL_set (o := []) (n := n) (s := b) (by simp)
  simp only [List.length_nil, List.nil_append] at hx3
  rw [show ((0 : Nat) : Int) = 0 from rfl] at hx3
  rw [hx3] at hx2
  refine ⟨(hB.trans (hal.mono h1)).grown hg (by have := hal.size; omega) (fun k hk => by cases hk; exact hnb), hnb, hx2, ⟨rfl, .inr ⟨w.heap.size, 1, #[.int .i64 (b : Int)], rfl, h1, ?_, Nat.le_refl _, by simp [maxLen], rfl, rfl⟩⟩, fun e => ?_⟩
  · refine (hg.block w.heap.size (by simp) (fun e => ?_)).trans (heap_alloc_new w _)
    have : w.heap.size = nb := Option.some.inj e
    omega
  · have : w.heap.size = nb := Option.some.inj e
    omega
theorem TabB.mono {B B' : Nat} {w : World} {u : Value} {xs : List (List Int)} (h : TabB B w u xs) (hB : B' ≤ B) : TabB B' w u xs := fun w' hw => h w' fun k h1 h2 => hw k (Nat.le_trans hB h1) h2
end Go.Proofs
namespace Go.Proofs
open Go.RowKit Go.Shelf Go.Proofs.Ct
theorem letter_bd {c : Nat} (h : c ≤ 1000) : -9000000 ≤ letter c ∧ letter c ≤ 9000000 := by
  unfold letter
  split <;> omega
theorem OutSt.first {w w2 : World} (hB : Below w.heap.size w w2) :
    OutSt 24 (fun k => k = w2.heap.size) w ((w2.alloc (.cells #[] 3)).alloc (.cells #[.slice (some ⟨w2.heap.size, 0, none⟩) 0 0] 24)) (.slice (some ⟨w2.heap.size + 1, 0, none⟩) 1 1) [[]] := by
  have hb := allocs_below [.cells #[] 3, .cells #[.slice (some ⟨w2.heap.size, 0, none⟩) 0 0] 24] w2 w2.heap.size (Nat.le_refl _)
  have e1 := allocs_get [.cells #[] 3, .cells #[.slice (some ⟨w2.heap.size, 0, none⟩) 0 0] 24] w2 0 _ rfl
  have e2 := allocs_get [.cells #[] 3, .cells #[.slice (some ⟨w2.heap.size, 0, none⟩) 0 0] 24] w2 1 _ rfl
  have h1 := hB.size
  refine ⟨hB.trans (hb.mono h1), ⟨[.slice (some ⟨w2.heap.size, 0, none⟩) 0 0], ⟨rfl, .inr ⟨w2.heap.size + 1, 1, _, rfl, by omega, e2, Nat.le_refl _, by simp [maxLen], rfl, rfl⟩⟩, rfl, fun j hj => ?_⟩, fun k hk => ?_⟩
  · obtain rfl : j = 0 := by simpa using hj
    refine ⟨_, rfl, fun w' _ => ⟨⟨_, 0, 0, rfl, rfl, Nat.le_refl _, by simp, fun h => absurd h (by omega)⟩, fun x hx => by cases hx⟩⟩
  · subst hk
    refine ⟨h1, by simp; omega, _, e1⟩
end Go.Proofs
namespace Go.Proofs
open Go.RowKit Go.Shelf Go.Proofs.Ct
def Mild (x : Int) : Prop := -4611686018427387903 ≤ x ∧ x ≤ 4611686018427387903
theorem Mild.fits {w : List Int} (h : ∀ x ∈ w, Mild x) : Fits w := fun x hx => by
  have := h x hx
  unfold Mild at this
  omega
theorem Mild.at_ {w : List Int} (h : ∀ x ∈ w, Mild x) (k : Nat) : Mild (w.getD k 0) := by
  rw [List.getD_eq_getElem?_getD]
  rcases Nat.lt_or_ge k w.length with hk | hk
  · rw [List.getElem?_eq_getElem hk]; exact h _ (List.getElem_mem hk)
  · rw [List.getElem?_eq_none hk]; exact ⟨by simp, by simp⟩
set_option maxRecDepth 100000 in
theorem opp134_any (w : World) (x y : Int) (hx : Mild x) (hy : Mild y) : Calls Try.prog 55 #[.int .i64 x, .int .i64 y] w fun e w' => e = .returned (.bool (opp x y)) ∧ w = w' := by
  obtain ⟨h1, h2⟩ := hx
  obtain ⟨h3, h4⟩ := hy
  have HO : Hid (opp x y = (decide (x ≠ 0) && decide (y = -x))) := Lib.hid rfl
  by_cases hx0 : x = 0
  · have d1 : (x != 0) = false := by simpa using hx0
    have HR : Hid (opp x y = false) := Lib.hid (by rw [HO.out]; simp [hx0])
    clear hx0
    go_enter Try.func55, Try.ntmps55
    go_wp2_with fail
    go_ret
    exact ⟨ret_bool HR.out.symm, rfl⟩
  · have d1 : (x != 0) = true := by simpa using hx0
    by_cases hxy : x = y
    · have d2 : (x != y) = false := by simpa using hxy
      have HR : Hid (opp x y = false) := Lib.hid (by rw [HO.out]; simp; omega)
      clear hx0 hxy
      go_enter Try.func55, Try.ntmps55
      go_wp2_with fail
      go_ret
      exact ⟨ret_bool HR.out.symm, rfl⟩
    · have d2 : (x != y) = true := by simpa using hxy
      by_cases hs : x + y = 0
      · have d3 : (x + y == 0) = true := beq_iff_eq.2 hs
        have HR : Hid (opp x y = true) := Lib.hid (by rw [HO.out]; simp; omega)
        clear hx0 hxy hs
        go_enter Try.func55, Try.ntmps55
        go_wp2_with fail
        go_ret
        exact ⟨ret_bool HR.out.symm, rfl⟩
      · have d3 : (x + y == 0) = false := beq_eq_false_iff_ne.2 hs
        have HR : Hid (opp x y = false) := Lib.hid (by rw [HO.out]; simp; omega)
        clear hx0 hxy hs
        go_enter Try.func55, Try.ntmps55
        go_wp2_with fail
        go_ret
        exact ⟨ret_bool HR.out.symm, rfl⟩
theorem owns_take {w : World} {base : Nat} {A : Option Addr} {n c : Nat} {xs : List Int} (h : w.ownsRow base 3 1 (.slice A n c) n (ints xs)) {k : Nat} (hk : k ≤ n) : w.ownsRow base 3 1 (.slice A k c) k (ints (xs.take k)) := by
  obtain ⟨hl, h2⟩ := h
  have hxl : xs.length = n := by simpa [ints] using hl
  refine ⟨by simp [ints]; omega, ?_⟩
  rcases h2 with ⟨e, h0⟩ | ⟨g, cap, cur, e, hb, hg, hnc, hcm, hcs, ht⟩
  · cases e
    obtain rfl : k = 0 := by omega
    exact .inl ⟨rfl, rfl⟩
  · cases e
    refine .inr ⟨g, c, cur, rfl, hb, hg, by omega, hcm, hcs, ?_⟩
    have : ints (xs.take k) = (ints xs).take k := by simp [ints, List.map_take]
    rw [this, ← ht, List.take_take]
    congr 1
    omega
def RedPost (x : List Int) (w : World) (e : Ending) (w' : World) : Prop := ∃ A c, e = .returned (.slice A (red x).length c) ∧ OwnI w.heap.size w' (.slice A (red x).length c) (red x) ∧ Below w.heap.size w w'
set_option maxRecDepth 100000 in
set_option maxHeartbeats 1000000 in
theorem reduce99_any (w : World) (v : Value) (x : List Int) (h : IntsAt w v x) (hm : ∀ z ∈ x, Mild z) (hl : x.length ≤ 8000000) : Calls Try.prog 38 #[v] w (RedPost x w) := by
  obtain ⟨A0, c0, rfl, hc1, hc2, hc⟩ := h.open_
  have HC := Lib.hid hc
  have HM := Lib.hid hm
  clear hc h hm
  have hx0 : (0 : Int) ≤ (x.length : Int) := Int.natCast_nonneg _
  go_enter Try.func38, Try.ntmps38
  go_wp2_with fail
  go_step3
  go_wp2_with fail
  go_step3
  go_wp2_with fail
  go_loopw [3, 9] (fun so i wr => ∃ k n : Nat, i = .int .i64 k ∧ k ≤ x.length ∧ n ≤ k ∧ Hid (n = (redTo x k).length) ∧ ∃ A c, so = .slice A n c ∧ Hid (OwnI w.heap.size wr so (redTo x k) ∧ Below w.heap.size w wr)) (fun _ i _ => x.length - (intOf i).toNat)
  case atStart => exact ⟨0, 0, rfl, by omega, by omega, Lib.hid rfl, none, 0, rfl, Lib.hid ⟨World.ownsRow_nil _ _ _ _, Below.refl _ _⟩⟩
  case round =>
    obtain ⟨k, n, rfl, hk, hnk, HN, A, c, rfl, HS⟩ := hrel
    have hk0 : (0 : Int) ≤ (k : Int) := Int.natCast_nonneg _
    have hn0 : (0 : Int) ≤ (n : Int) := Int.natCast_nonneg _
    by_cases hlt : k < x.length
    · have hlt' : (k : Int) < (x.length : Int) := by omega
      obtain ⟨b, o, rfl, hcc⟩ := HC.out (by omega)
      have hck := hcc k hlt
      have hck' := (HS.out.2.cell (p := ⟨b, o + k, none⟩) (World.block_lt_of_cell? w _ hck)).trans hck
      have hmk := Mild.at_ HM.out k
      have HSTEP : Hid (redTo x (k + 1) = push (redTo x k) (x.getD k 0)) := Lib.hid rfl
      have hmst : ∀ z ∈ redTo x k, Mild z := fun z hz => HM.out z (redTo_mem hk hz)
      clear hcc hck
      generalize x.getD k 0 = z at *
      generalize redTo x k = st at *
      have hmk' : -4611686018427387903 ≤ z ∧ z ≤ 4611686018427387903 := hmk
      obtain ⟨hz1, hz2⟩ := hmk'
      have hpush := run_push (ty := 24) Try.underlying24 info3p rfl (by omega) wr w.heap.size (.slice A n c) n (ints st) (by have := HS.out.1; unfold OwnI at this; rw [← HN.out] at this; exact this) (.int .i64 z) rfl (by omega) HS.out.2.size
      by_cases hn : n = 0
      · subst hn
        have hst : st = [] := List.length_eq_zero_iff.1 HN.out.symm
        obtain ⟨A', c', w', hr, ho, hg, -⟩ := hpush
        have hsn : redTo x (k + 1) = st ++ [z] := by rw [HSTEP.out]; unfold push; rw [hst]; rfl
        have HR := Lib.hid hr
        have HS2 : Hid (OwnI w.heap.size w' (.slice A' (0 + 1) c') (redTo x (k + 1)) ∧ Below w.heap.size w w') := Lib.hid ⟨by
          unfold OwnI
          rw [hsn, List.length_append, ← HN.out, ints_app]
          exact ho, HS.out.2.grown hg HS.out.2.size (fun r hr => (owns_block HS.out.1 r hr).1)⟩
        have HN2 : Hid (0 + 1 = (redTo x (k + 1)).length) := Lib.hid (by rw [hsn, List.length_append, ← HN.out]; rfl)
        clear hr ho hg hsn hst hmst hn0
        go_wp2_with ((with_reducible refine wpList_sel 33 ?_); refine wpList_val rfl (r_app (.tmp 30) (.tmp 32) 24 rfl rfl rfl HR.out) ?_)
        go_roundw
        case rel => exact ⟨k + 1, 0 + 1, by go_num, by omega, by omega, HN2, _, _, rfl, HS2⟩
        case measure => simp [intOf]; omega
      · have d1 : decide ((n : Int) > 0) = true := by simp; omega
        have d2 : decide (0 < (n : Int)) = true := by simp; omega
        obtain ⟨m, rfl⟩ : ∃ m, n = m + 1 := ⟨n - 1, by omega⟩
        have hoI := OwnI.ints HS.out.1 (Mild.fits hmst)
        obtain ⟨A5, c5, e5, ht1, ht2, ht3⟩ := hoI.open_
        obtain ⟨rfl, -, rfl⟩ := Value.slice.inj e5
        obtain ⟨b5, o5, rfl, hoc⟩ := ht3 (by have := HN.out; omega)
        have hcm := hoc m (by have := HN.out; omega)
        have hcap : m ≤ c := by have := HN.out; omega
        have hcapI : (m : Int) ≤ (c : Int) := by omega
        have hmy := Mild.at_ hmst m
        have HP : Hid (push st z = if opp (st.getD m 0) z then st.take m else st ++ [z]) := Lib.hid (by
          unfold push
          rw [← HN.out, decide_eq_true (by omega : 0 < m + 1)]
          simp)
        clear hoI e5 ht3 hoc
        generalize st.getD m 0 = y at *
        have hmy' : -4611686018427387903 ≤ y ∧ y ≤ 4611686018427387903 := hmy
        obtain ⟨hy1, hy2⟩ := hmy'
        have hm0 : (0 : Int) ≤ (m : Int) := Int.natCast_nonneg _
        cases hop : opp y z with
        | true =>
          have hsn : redTo x (k + 1) = st.take m := by rw [HSTEP.out, HP.out, hop]; rfl
          have HS2 : Hid (OwnI w.heap.size wr (.slice (some ⟨b5, o5, none⟩) m c) (redTo x (k + 1)) ∧ Below w.heap.size w wr) := Lib.hid ⟨by
            have h1 := HS.out.1
            unfold OwnI at h1 ⊢
            rw [← HN.out] at h1
            have h2 := owns_take h1 (Nat.le_succ m)
            have h3 : (st.take m).length = m := by rw [List.length_take, ← HN.out]; omega
            rw [hsn, h3]
            exact h2, HS.out.2⟩
          have HN2 : Hid (m = (redTo x (k + 1)).length) := Lib.hid (by rw [hsn, List.length_take, ← HN.out]; omega)
          have HCALL := Lib.hid (opp134_any wr y z hmy hmk)
          rw [hop] at HCALL
          clear hsn hmst hop hpush hmy hmk
          go_wp2_with (go_at_call 55; (refine HCALL.out.mono ?_); rintro e w' ⟨rfl, rfl⟩)
          go_roundw
          case rel => exact ⟨k + 1, m, by go_num, by omega, by omega, HN2, _, _, rfl, HS2⟩
          case measure => simp [intOf]; omega
        | false =>
          obtain ⟨A', c', w', hr, ho, hg, -⟩ := hpush
          have hsn : redTo x (k + 1) = st ++ [z] := by rw [HSTEP.out, HP.out, hop]; rfl
          have HR := Lib.hid hr
          have HS2 : Hid (OwnI w.heap.size w' (.slice A' (m + 1 + 1) c') (redTo x (k + 1)) ∧ Below w.heap.size w w') := Lib.hid ⟨by
            unfold OwnI
            rw [hsn, List.length_append, ← HN.out, ints_app]
            exact ho, HS.out.2.grown hg HS.out.2.size (fun r hr => (owns_block HS.out.1 r hr).1)⟩
          have HN2 : Hid (m + 1 + 1 = (redTo x (k + 1)).length) := Lib.hid (by rw [hsn, List.length_append, ← HN.out]; rfl)
          have HCALL := Lib.hid (opp134_any wr y z hmy hmk)
          rw [hop] at HCALL
          clear hr ho hg hsn hmst hop hmy hmk
          go_wp2_with (first
            | (go_at_call 55; (refine HCALL.out.mono ?_); rintro e w' ⟨rfl, rfl⟩)
            | ((with_reducible refine wpList_sel 33 ?_); refine wpList_val rfl (r_app (.tmp 30) (.tmp 32) 24 rfl rfl rfl HR.out) ?_))
          go_roundw
          case rel => exact ⟨k + 1, m + 1 + 1, by go_num, by omega, by omega, HN2, _, _, rfl, HS2⟩
          case measure => simp [intOf]; omega
    · obtain rfl : k = x.length := by omega
      have HZ : Hid (redTo x x.length = red x) := Lib.hid rfl
      rw [HZ.out] at HN HS
      go_wp2_with fail
      rw [Exit.noGoto_ret]
      go_ret
      exact ⟨A, c, by rw [← HN.out]; rfl, by rw [← HN.out]; exact HS.out.1, HS.out.2⟩
end Go.Proofs
namespace Go.Proofs
open Go.RowKit Go.Shelf Go.Proofs.Ct
theorem run_append_nil2 {P : Program} (w : World) (base : Nat) (t ty e : TypeId) (i : TypeInfo) (ht : P.underlying t = some (.slice e)) (hi : P.info? e = some i) (c : Nat)
    (v : Value) (n : Nat) (xs : List Value) (hown : w.ownsRow base e 1 v n xs) : (Builtin.append_ #[t, t] ty #[v, .slice none 0 c]).run P w = .ok v w := by
  rcases hown.2 with ⟨rfl, rfl⟩ | ⟨g, cap, cur, rfl, _, _, hnc, _⟩
  · simp [Builtin.append_, run_underlying ht, sizeOf, typeInfo, hi, Builtin.lenOf, Builtin.firstCells]
  · simp [Builtin.append_, run_underlying ht, sizeOf, typeInfo, hi, Builtin.lenOf, Builtin.firstCells, hnc, storeCells]
/-- append(v, u...): u readable, v of the call's own -/
theorem run_append_ints (ty t : TypeId) (ht : Try.prog.underlying t = some (.slice 3)) (w : World) (base : Nat) (v u : Value) (x y : List Int) (h : OwnI base w v x) (hu : IntsAt w u y) (hx : x.length ≤ 9000000) (hy : y.length ≤ 9000000) (hb : base ≤ w.heap.size) :
    ∃ A' c' w', (Builtin.append_ #[t, t] ty #[v, u]).run Try.prog w = .ok (.slice A' (x ++ y).length c') w' ∧ OwnI base w' (.slice A' (x ++ y).length c') (x ++ y) ∧ w.grownBy w' v.ownBlock ∧
      ((Value.slice A' (x ++ y).length c').ownBlock = v.ownBlock ∨ ∃ r, (Value.slice A' (x ++ y).length c').ownBlock = some r ∧ w.heap.size ≤ r) := by
  obtain ⟨i3, hi3, hz3, hs3, hb3⟩ := info3p
  have hl : (x ++ y).length = x.length + y.length := List.length_append
  obtain ⟨A, c, rfl, hc1, hc2, hc⟩ := hu.open_
  cases A with
  | none =>
    have h0 : y = [] := by
      rcases Nat.eq_zero_or_pos y.length with h0 | h0
      · exact List.length_eq_zero_iff.1 h0
      · obtain ⟨b, off, hx, -⟩ := hc h0
        cases hx
    subst h0
    obtain ⟨A', c', e⟩ := owns_form h
    subst e
    rw [List.append_nil]
    exact ⟨A', c', w, run_append_nil2 w base t ty 3 i3 ht hi3 c _ _ _ h, h, World.grownBy.refl w _, .inl rfl⟩
  | some a =>
    have hcells : ∀ j u, (ints y)[j]? = some u → w.cell? (a.add j) = some u := by
      intro j u hju
      have hj : j < y.length := by
        have := (List.getElem?_eq_some_iff.1 hju).1
        simpa [ints] using this
      obtain ⟨b, off, e, hcc⟩ := hc (by omega)
      cases e
      rw [Addr.add_lit, hcc j hj, ← hju]
      simp [ints, hj, List.getD_eq_getElem?_getD]
    obtain ⟨v', w', hr, hown, hg, -, hw⟩ := run_append_own_at (P := Try.prog) w base t ty 3 i3 (.int .i64 0) 1 8 ht hi3 hz3 hs3 hb3 rfl (by omega) v x.length (ints x) h a y.length c (ints y) (by simp [ints]) hcells (fun u hu => by
      obtain ⟨z, -, rfl⟩ := List.mem_map.1 hu; rfl) (by unfold maxLen; omega) (by omega) hb
    obtain ⟨A', c', rfl⟩ := owns_form hown
    refine ⟨A', c', w', by rw [hr, hl], by unfold OwnI; rw [hl, ints_app]; exact hown, hg, by rw [hl]; exact hw.imp id fun hh => ⟨_, hh, Nat.le_refl _⟩⟩
theorem make_t {t : TypeId} (ht : Try.prog.underlying t = some (.slice 3)) (w : World) (n : Nat) (hn : n ≤ 9000000) : ∃ w', (Instr.makeSlice t (.int .i64 (n : Int)) (.int .i64 (n : Int))).run Try.prog w = .ok (.slice (some ⟨w.heap.size, 0, none⟩) n n) w' ∧ XsAt w' w.heap.size (fillL 0 n) ∧ Below w.heap.size w w' := by
  obtain ⟨i, hi, hz, hs, hb⟩ := info3p
  have h := run_makeSlice (P := Try.prog) w t 3 i (.int .i64 0) ht hi hz .i64 .i64 n n (by omega) (Int.le_refl _) (by rw [hs]; simp; omega) (by rw [hb]; omega) (by omega)
  simp only [Int.toNat_natCast, hs, Nat.mul_one] at h
  rw [made3] at h
  refine ⟨_, h, ⟨_, heap_alloc_new w _, ?_, fun k hk => ?_⟩, (Below.refl _ _).alloc (Nat.le_refl _) _⟩
  · rw [length_fillL]
    simp
  · rw [length_fillL] at hk
    have : (fillL 0 n).getD k 0 = 0 := by simp [fillL, List.getD_eq_getElem?_getD, hk]
    rw [this]
    simp [hk]
/-- the inverse, with k letters laid from behind -/
def turnTo (w : List Int) (k : Nat) : List Int := (List.range w.length).map fun (j : Nat) => if w.length - k ≤ j then -(w.getD (w.length - 1 - j) 0) else 0
theorem length_turnTo (w : List Int) (k : Nat) : (turnTo w k).length = w.length := by simp [turnTo]
theorem turnTo_set {w : List Int} {k : Nat} (hk : k < w.length) : (turnTo w k).set (w.length - 1 - k) (-(w.getD k 0)) = turnTo w (k + 1) := by
  refine map_range_set ?_ fun j _ hne => ?_
  · rw [if_pos (by omega), show w.length - 1 - (w.length - 1 - k) = k by omega]
  · by_cases h : w.length - k ≤ j
    · rw [if_pos h, if_pos (by omega)]
    · rw [if_neg h, if_neg (by omega)]
theorem turnTo_zero (w : List Int) : turnTo w 0 = fillL 0 w.length := by
  unfold turnTo fillL
  apply List.map_congr_left
  intro j hj
  simp at hj
  rw [if_neg (by omega), if_neg (by omega)]
theorem turnTo_full (w : List Int) : turnTo w w.length = inv w := by
  refine getD_ext (d := 0) (by simp [length_turnTo, length_inv]) fun j hj => ?_
  rw [length_turnTo] at hj
  have hj2 : w.length - 1 - j < w.length := by omega
  simp [turnTo, inv, List.getD_eq_getElem?_getD, hj, hj2]
theorem mild_inv {w : List Int} (h : ∀ z ∈ w, Mild z) : ∀ z ∈ inv w, Mild z := fun z hz => by
  have := h _ (mem_inv hz)
  unfold Mild at *
  omega
theorem mild_turnTo {w : List Int} (h : ∀ z ∈ w, Mild z) (k : Nat) : Fits (turnTo w k) := fun z hz => by
  simp only [turnTo, List.mem_map] at hz
  obtain ⟨j, -, rfl⟩ := hz
  have := Mild.at_ h (w.length - 1 - j)
  unfold Mild at this
  split <;> omega
set_option maxRecDepth 100000 in
set_option maxHeartbeats 1000000 in
theorem turned116_any (w : World) (v : Value) (x : List Int) (h : IntsAt w v x) (hm : ∀ z ∈ x, Mild z) (hl : x.length ≤ 8000000) :
    Calls Try.prog 40 #[v] w fun e w' => (∃ u, e = .returned u ∧ IntsAt w' u (inv x)) ∧ Below w.heap.size w w' := by
  obtain ⟨A0, c0, rfl, hc1, hc2, hc⟩ := h.open_
  obtain ⟨w1, hr1, hx1, hb1⟩ := make_t Try.underlying24 w x.length (by omega)
  rw [← turnTo_zero] at hx1
  have HR1 := Lib.hid hr1
  have HX1 := Lib.hid hx1
  have HB1 := Lib.hid hb1
  have HC := Lib.hid hc
  have HM := Lib.hid hm
  clear hc h hm hr1 hx1 hb1
  have hx0 : (0 : Int) ≤ (x.length : Int) := Int.natCast_nonneg _
  have hx3 : (x.length : Int) ≤ 8000000 := by omega
  go_enter Try.func40, Try.ntmps40
  go_wp2_with ((with_reducible refine wpList_sel 8 ?_); refine wpList_val rfl (r_make 24 (.tmp 7) (.tmp 7) rfl rfl rfl HR1.out) ?_)
  go_loopw [11] (fun i wr => ∃ k : Nat, i = .int .i64 k ∧ k ≤ x.length ∧ Hid (XsAt wr w.heap.size (turnTo x k) ∧ Below w.heap.size w wr)) (fun i _ => x.length - (intOf i).toNat)
  case atStart => exact ⟨0, rfl, by omega, Lib.hid ⟨HX1.out, HB1.out⟩⟩
  case round =>
    clear HX1 HB1
    obtain ⟨k, rfl, hk, HS⟩ := hrel
    have hk0 : (0 : Int) ≤ (k : Int) := Int.natCast_nonneg _
    by_cases hlt : k < x.length
    · have hlt' : (k : Int) < (x.length : Int) := by omega
      obtain ⟨b, o, rfl, hcc⟩ := HC.out (by omega)
      have hck := hcc k hlt
      have hck' := (HS.out.2.cell (p := ⟨b, o + k, none⟩) (World.block_lt_of_cell? w _ hck)).trans hck
      have hmk := Mild.at_ HM.out k
      have HSET := Lib.hid (turnTo_set hlt)
      have hcx := HS.out.1.cell (k := x.length - 1 - k) (by rw [length_turnTo]; omega)
      have hfx := HS.out.1.frozen (x.length - 1 - k)
      have hset := HS.out.1.set (k := x.length - 1 - k) (by rw [length_turnTo]; omega) (-(x.getD k 0))
      rw [HSET.out] at hset
      have HST := Lib.hid hset
      clear hcc hck hset HSET
      generalize x.getD k 0 = z at *
      have hmk' : -4611686018427387903 ≤ z ∧ z ≤ 4611686018427387903 := hmk
      obtain ⟨hz1, hz2⟩ := hmk'
      obtain ⟨d, hd⟩ : ∃ d : Nat, x.length = d + 1 + k := ⟨x.length - 1 - k, by omega⟩
      have hdd : x.length - 1 - k = d := by omega
      rw [hdd] at hcx hfx HST
      have hidx : (x.length : Int) - 1 - (k : Int) = (d : Int) := by omega
      have hd0 : (0 : Int) ≤ (d : Int) := Int.natCast_nonneg _
      have hd1 : (d : Int) < (x.length : Int) := by omega
      have HD := Lib.hid hd
      have HDD := Lib.hid hdd
      clear hd hdd hmk
      go_wp2_with fail
      go_roundw
      case rel => exact ⟨k + 1, by go_num, by omega, Lib.hid ⟨HST.out, HS.out.2.grown (grown_setCell _ _ _ _) HS.out.2.size (fun k hk => by cases hk; exact Nat.le_refl _)⟩⟩
      case measure => simp [intOf]; omega
    · obtain rfl : k = x.length := by omega
      have HT := Lib.hid (HS.out.1.ints (n := x.length) (cap := x.length) (length_turnTo _ _) (Nat.le_refl _) (by omega) (mild_turnTo HM.out _))
      rw [turnTo_full] at HT
      go_wp2_with fail
      go_ret
      exact ⟨⟨_, rfl, HT.out⟩, HS.out.2⟩
end Go.Proofs
