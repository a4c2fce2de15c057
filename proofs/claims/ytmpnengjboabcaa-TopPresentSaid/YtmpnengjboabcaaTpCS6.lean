/- The state of coset.Standard: the map of numbers, the order, the rows; its steps, as equations on runs; Rows of the call's own that grow; a list of numbers in one block; cayleyref18.Complete; Equality of tables and words; a copy by append; slices.Clone; letter; word.Reduce and cayleyref02.Reduce. -/
import Derived.Test.YtmpnengjboabcaaTpCS5
import Derived.Test.YtmpnengjboabcaaTpCS1
import Derived.Test.YtmpnengjboabcaaTpCS3
import Derived.WalkMore
namespace Go.Proofs
open Go.RowKit Go.Shelf Go.Proofs.Ct Go.Maps
def I64 (x : Int) : Prop := -9223372036854775808 ≤ x ∧ x ≤ 9223372036854775807
/-- block b is a map from the numbers of l to their places -/
def MapI (w : World) (b : Nat) (l : List Int) : Prop :=
  ∃ n D, n ≤ l.length ∧ w.ownsMap (H := Unit) Try.prog 3 (plainElem Try.prog 3) b n D ∧
    ∀ s, I64 s → Maps.has D (.int .i64 s) = l.contains s ∧ (s ∈ l → D.atKey (.int .i64 s) (.lit (.int .i64 0)) = .lit (.int .i64 (numOf l s)))
theorem zero3 (w : World) : (zeroValue 3).run Try.prog w = .ok (.int .i64 0) w := by kernel_rfl
theorem key3 {s : Int} (h : I64 s) : keyOf Try.prog 3 (.int .i64 s) = some (.int .i64 s) := keyOf_int_mk Try.underlying3 (WalkArith.wf_i64 h)
theorem MapI.made (w : World) : MapI (w.alloc (.map #[] 0)) w.heap.size [] :=
  ⟨0, .map [], Nat.le_refl _, World.ownsMap_made _ _ _ _, fun s _ => ⟨by simp [Maps.has], fun h => by cases h⟩⟩
theorem MapI.kept {w w' : World} {b : Nat} {l : List Int} {row : Option Nat} (h : MapI w b l) (hg : w.grownBy w' row) (hne : row ≠ some b) : MapI w' b l := by
  obtain ⟨n, D, h1, h2, h3⟩ := h
  exact ⟨n, D, h1, h2.kept hg (Ne.symm hne), h3⟩
theorem MapI.lt {w : World} {b : Nat} {l : List Int} (h : MapI w b l) : b < w.heap.size := by
  obtain ⟨n, D, h1, h2, h3⟩ := h
  exact h2.lt
theorem MapI.isMapObj {w : World} {b : Nat} {l : List Int} (h : MapI w b l) : ∃ es clock, w.heap[b]? = some (.map es clock) := by
  obtain ⟨n, D, h1, ⟨es, clock, hb, -⟩, h3⟩ := h
  exact ⟨es, clock, hb⟩
theorem MapI.look_ok {w : World} {b : Nat} {l : List Int} (h : MapI w b l) {s : Int} (hs : I64 s) : ∃ c : Int, (Instr.lookup 141 (.map (some b)) (.int .i64 s) true).run Try.prog w = .ok (.tuple #[.int .i64 c, .bool (l.contains s)]) w := by
  obtain ⟨n, D, h1, h2, h3⟩ := h
  obtain ⟨v, ps, hr, hv⟩ := h2.look_ok (int_keyed Try.underlying3) Try.underlying141 (zero3 w) (plainElem_int Try.underlying3 (by decide)) (key3 hs)
  obtain ⟨c, rfl, hc, hwc⟩ := plainElem_int_inv Try.underlying3 hv
  rw [(h3 s hs).1] at hr
  exact ⟨c, hr⟩
theorem MapI.look {w : World} {b : Nat} {l : List Int} (h : MapI w b l) {s : Int} (hs : I64 s) (hm : s ∈ l) : (Instr.lookup 141 (.map (some b)) (.int .i64 s) false).run Try.prog w = .ok (.int .i64 (numOf l s)) w := by
  obtain ⟨n, D, h1, h2, h3⟩ := h
  obtain ⟨c, hr, hat, -⟩ := h2.lookup_int (int_keyed Try.underlying3) Try.underlying141 Try.underlying3 (zero3 w) (key3 hs)
  rw [(h3 s hs).2 hm] at hat
  have : numOf l s = c := by simpa using hat
  rw [this]
  exact hr
theorem MapI.put {w : World} {b : Nat} {l : List Int} (h : MapI w b l) {s : Int} (hs : I64 s) (hl : l.length ≤ 100000) (hn : s ∉ l) :
    ∃ w', (Instr.mapUpdate 141 (.map (some b)) (.int .i64 s) (.int .i64 (l.length : Int))).run Try.prog w = .ok () w' ∧ MapI w' b (l ++ [s]) ∧ w.grownBy w' (some b) := by
  obtain ⟨n, D, h1, h2, h3⟩ := h
  obtain ⟨w', hr, ho, hg⟩ := h2.update (val := .int .i64 (l.length : Int)) (int_keyed Try.underlying3) Try.underlying141 (by unfold maxLen; omega) (key3 hs) (plainElem_int Try.underlying3 (WalkArith.wf_i64 (by omega)))
  refine ⟨w', hr, ⟨n + 1, _, by simp; omega, ho, fun x hx => ?_⟩, hg⟩
  by_cases e : x = s
  · subst e
    have hkl : WideAt.IsKeyLit (Lit.int .i64 x) := by simp [WideAt.IsKeyLit]
    rw [Maps.has_put_same h2.isMap hkl]
    refine ⟨by simp, fun _ => ?_⟩
    rw [Maps.atKey_put_same h2.isMap hkl]
    rw [numOf_new hn (List.prefix_refl _)]
  · have hne : (Lit.int .i64 x) ≠ (Lit.int .i64 s) := fun h => e (by simpa using h)
    rw [Maps.has_put_other hne, (h3 x hx).1]
    refine ⟨by simp [e], fun hm => ?_⟩
    have hm' : x ∈ l := by
      rcases List.mem_append.1 hm with h | h
      · exact h
      · exact absurd (by simpa using h) e
    rw [Maps.atKey_put_other hne, (h3 x hx).2 hm', idxOf_pre (List.prefix_append _ _) hm']
section
variable {o : Oper} {a : Act} {w w' : World} {ops : Array Oper} {rest : List Oper} {Q : Exit → Act → World → Prop}
theorem wpList_selMu (T : TypeId) (x y z : Nat) {t : TypeId} {p : String} {af : Array Edge} {g : Option (Nat × Bool)} (h : wpList Try.prog ops Q (⟨none, .mapUpdate T (.tmp x) (.tmp y) (.tmp z), t, p, af, g⟩ :: rest) a w) : wpList Try.prog ops Q (⟨none, .mapUpdate T (.tmp x) (.tmp y) (.tmp z), t, p, af, g⟩ :: rest) a w := h
theorem wpList_selIns (T : TypeId) (x y : Nat) (z : Value) {t : TypeId} {p : String} {af : Array Edge} {g : Option (Nat × Bool)} (h : wpList Try.prog ops Q (⟨none, .insert T (.tmp x) (.tmp y) (.const z), t, p, af, g⟩ :: rest) a w) : wpList Try.prog ops Q (⟨none, .insert T (.tmp x) (.tmp y) (.const z), t, p, af, g⟩ :: rest) a w := h
theorem r_mu {mv kv xv : Value} (T : TypeId) (m k x : Operand) (ho : o.op = .mapUpdate T m k x) (hm : a.eval m = mv) (hk : a.eval k = kv) (hx : a.eval x = xv) (hr : (Instr.mapUpdate T mv kv xv).run Try.prog w = .ok () w') : (execOp a.eval o).run Try.prog w = .ok .skip w' := by
  unfold execOp
  simp only [ho, hm, hk, hx, Sem.run_bind, hr, Result.andThen_ok]
  rfl
theorem r_ins {mv kv xv : Value} (T : TypeId) (m k x : Operand) (ho : o.op = .insert T m k x) (hm : a.eval m = mv) (hk : a.eval k = kv) (hx : a.eval x = xv) (hr : (Instr.mapUpdate T mv kv xv).run Try.prog w = .ok () w') : (execOp a.eval o).run Try.prog w = .ok .skip w' := by
  unfold execOp
  simp only [ho, hm, hk, hx, Sem.run_bind, hr, Result.andThen_ok]
  rfl
theorem r_look {mv kv v : Value} {c : Bool} (T : TypeId) (m k : Operand) (ho : o.op = .lookup T m k c) (hm : a.eval m = mv) (hk : a.eval k = kv) (hr : (Instr.lookup T mv kv c).run Try.prog w = .ok v w') : (execOp a.eval o).run Try.prog w = .ok (.value v) w' := by
  unfold execOp
  simp only [ho, hm, hk, Sem.run_bind, hr, Result.andThen_ok]
  rfl
theorem r_make {lv cv v : Value} (T : TypeId) (l c : Operand) (ho : o.op = .makeSlice T l c) (hl : a.eval l = lv) (hc : a.eval c = cv) (hr : (Instr.makeSlice T lv cv).run Try.prog w = .ok v w') : (execOp a.eval o).run Try.prog w = .ok (.value v) w' := by
  unfold execOp
  simp only [ho, hl, hc, Sem.run_bind, hr, Result.andThen_ok]
  rfl
end
/-- numbers, order and rows in memory -/
structure StdSt (bm : Nat) (F : Nat → Prop) (w0 wr : World) (vo vout : Value) (o : List Int) (rows : Tb) : Prop where
  below : Below w0.heap.size w0 wr
  bm0 : w0.heap.size ≤ bm
  map : MapI wr bm o
  ord : OwnI w0.heap.size wr vo o
  out : OwnT 24 w0.heap.size F wr vout rows
  fs : ∀ k, F k → w0.heap.size ≤ k ∧ k < wr.heap.size ∧ vo.ownBlock ≠ some k ∧ ∃ C, wr.heap[k]? = some (.cells C 3 (0, 0))
/-- .. and a row in the making -/
structure StdSt2 (bm : Nat) (F : Nat → Prop) (w0 wr : World) (vo vout vr : Value) (o : List Int) (rows : Tb) (x : List Int) : Prop where
  st : StdSt bm F w0 wr vo vout o rows
  row : OwnI w0.heap.size wr vr x
  ap : ∀ r, vr.ownBlock = some r → vo.ownBlock ≠ some r ∧ ¬ F r
theorem grown_cells {w w' : World} {row : Option Nat} (hg : w.grownBy w' row) {k : Nat} {ob : Obj} (h : w.heap[k]? = some ob) (hne : row ≠ some k) : w'.heap[k]? = some ob :=
  (hg.block k (Array.getElem?_eq_some_iff.1 h).1 (Ne.symm hne)).trans h
theorem OwnT.block {e : TypeId} {base : Nat} {F : Nat → Prop} {w : World} {v : Value} {xs : List (List Int)} (h : OwnT e base F w v xs) : ∀ r, v.ownBlock = some r → base ≤ r ∧ ∃ C, w.heap[r]? = some (.cells C e (0, 0)) := let ⟨_, h1, _⟩ := h; owns_block h1
/-- a block of the call's own, other than those of the order, the rows and the map, is written -/
theorem StdSt.grown {bm : Nat} {F : Nat → Prop} {w0 wr w' : World} {vo vout : Value} {o : List Int} {rows : Tb} {row : Option Nat} (h : StdSt bm F w0 wr vo vout o rows) (hg : wr.grownBy w' row)
    (h0 : ∀ r, row = some r → w0.heap.size ≤ r ∧ vo.ownBlock ≠ some r ∧ ¬ F r ∧ vout.ownBlock ≠ some r ∧ r ≠ bm) : StdSt bm F w0 w' vo vout o rows := by
  have hob := owns_block h.ord
  have hub := h.out.block
  refine ⟨h.below.grown hg h.below.size (fun k hk => (h0 k hk).1), h.bm0, h.map.kept hg (fun e => (h0 _ e).2.2.2.2 rfl), owns_keep h.ord fun r hr => ?_, h.out.keep (fun r hr => ?_) (Ag.grown hg fun k hk => ⟨(h.fs k hk).2.1, fun e => (h0 _ e).2.2.1 hk⟩) (fun _ h => h), fun k hk => ?_⟩
  · exact hg.block r (owns_lt h.ord hr) (fun e => (h0 r e.symm).2.1 hr)
  · obtain ⟨-, C, hC⟩ := hub r hr
    exact hg.block r (Array.getElem?_eq_some_iff.1 hC).1 (fun e => (h0 r e.symm).2.2.2.1 hr)
  · obtain ⟨h1, h2, h3, C, hC⟩ := h.fs k hk
    exact ⟨h1, Nat.lt_of_lt_of_le h2 hg.size, h3, C, grown_cells hg hC (fun e => (h0 _ e).2.2.1 hk)⟩
/-- a row begins -/
theorem StdSt.start {bm : Nat} {F : Nat → Prop} {w0 wr : World} {vo vout : Value} {o : List Int} {rows : Tb} (h : StdSt bm F w0 wr vo vout o rows) (g : Nat) (hg16 : g ≤ 16) :
    ∃ A c w', (Instr.makeSlice 24 (.int .i64 0) (.int .i64 (2 * (g : Int)))).run Try.prog wr = .ok (.slice A 0 c) w' ∧ StdSt2 bm F w0 w' vo vout (.slice A 0 c) o rows [] := by
  obtain ⟨i, hi, hz, hs, hb⟩ := info3p
  obtain ⟨w', hr, ho, hg⟩ := run_make_own (P := Try.prog) wr w0.heap.size 24 3 i (.int .i64 0) 1 Try.underlying24 hi hz hs .i64 .i64 (2 * g) (by rw [hb]; omega) (by unfold maxLen; omega) h.below.size
  have hr' : (Instr.makeSlice 24 (.int .i64 0) (.int .i64 (2 * (g : Int)))).run Try.prog wr = .ok (.slice (some ⟨wr.heap.size, 0, none⟩) 0 (2 * g)) w' := by
    rw [show (2 * (g : Int)) = ((2 * g : Nat) : Int) by omega]
    exact hr
  refine ⟨_, _, w', hr', h.grown hg (fun r hr => by cases hr), ho, fun r hr => ?_⟩
  have hr2 : wr.heap.size = r := Option.some.inj hr
  subst hr2
  refine ⟨fun e => ?_, fun e => ?_⟩
  · exact absurd (owns_lt h.ord e) (Nat.lt_irrefl _)
  · exact absurd (h.fs _ e).2.1 (Nat.lt_irrefl _)
/-- a number is laid behind the row -/
theorem StdSt2.add {bm : Nat} {F : Nat → Prop} {w0 wr : World} {vo vout vr : Value} {o : List Int} {rows : Tb} {x : List Int} (h : StdSt2 bm F w0 wr vo vout vr o rows x) (z : Int) (hx : x.length ≤ 100000) :
    ∃ A' c' w', (Builtin.append_ #[24, 24] 24 #[vr, .slice (some ⟨wr.heap.size, 0, none⟩) 1 1]).run Try.prog (wr.alloc (.cells #[.int .i64 z] 3)) = .ok (.slice A' (x.length + 1) c') w' ∧ StdSt2 bm F w0 w' vo vout (.slice A' (x.length + 1) c') o rows (x ++ [z]) := by
  obtain ⟨A', c', w', hr, ho, hg, hw⟩ := push_int 24 24 Try.underlying24 wr w0.heap.size vr x h.row z (by omega) h.st.below.size
  have hrb := owns_block h.row
  have hst : StdSt bm F w0 w' vo vout o rows := h.st.grown hg fun r hr => by
    obtain ⟨h1, C, hC⟩ := hrb r hr
    refine ⟨h1, (h.ap r hr).1, (h.ap r hr).2, fun e => ?_, fun e => ?_⟩
    · obtain ⟨-, C', hC'⟩ := h.st.out.block r e
      rw [hC] at hC'; cases hC'
    · subst e
      obtain ⟨es, cl, hm⟩ := h.st.map.isMapObj
      rw [hC] at hm; cases hm
  refine ⟨A', c', w', hr, hst, ho, fun r hr => ?_⟩
  rcases hw with hw | ⟨r', hr', hge⟩
  · rw [hw] at hr
    exact h.ap r hr
  · have e : r' = r := by rw [hr'] at hr; exact Option.some.inj hr
    subst e
    exact ⟨fun e => absurd (owns_lt h.st.ord e) (by omega), fun e => absurd (h.st.fs _ e).2.1 (by omega)⟩
/-- a new coset gets its number -/
theorem StdSt2.visit {bm : Nat} {F : Nat → Prop} {w0 wr : World} {vo vout vr : Value} {o : List Int} {rows : Tb} {x : List Int} (h : StdSt2 bm F w0 wr vo vout vr o rows x) {s : Int} (hs : I64 s) (hn : s ∉ o) (ho : o.length ≤ 100000) :
    ∃ wm A' c' w', (Instr.mapUpdate 141 (.map (some bm)) (.int .i64 s) (.int .i64 (o.length : Int))).run Try.prog wr = .ok () wm ∧
      (Builtin.append_ #[24, 24] 24 #[vo, .slice (some ⟨wm.heap.size, 0, none⟩) 1 1]).run Try.prog (wm.alloc (.cells #[.int .i64 s] 3)) = .ok (.slice A' (o.length + 1) c') w' ∧
      StdSt2 bm F w0 w' (.slice A' (o.length + 1) c') vout vr (o ++ [s]) rows x := by
  obtain ⟨wm, hrm, hmm, hgm⟩ := h.st.map.put hs ho hn
  obtain ⟨es, cl, hmo⟩ := h.st.map.isMapObj
  have hne : ∀ {k : Nat} {C : Array Value} {e : TypeId} {fr : Nat × Nat}, wr.heap[k]? = some (.cells C e fr) → (some bm : Option Nat) ≠ some k := fun {k C e fr} hc e' => by
    have : bm = k := Option.some.inj e'
    subst this
    rw [hmo] at hc; cases hc
  have hob := owns_block h.st.ord
  have hrb := owns_block h.row
  have hub := h.st.out.block
  have horm : OwnI w0.heap.size wm vo o := owns_keep h.st.ord fun r hr => by
    obtain ⟨-, C, hC⟩ := hob r hr
    exact (grown_cells hgm hC (hne hC)).trans hC.symm
  have hbm : Below w0.heap.size w0 wm := h.st.below.grown hgm h.st.below.size (fun k hk => by cases hk; exact h.st.bm0)
  obtain ⟨A', c', w', hr, ho', hg, hw⟩ := push_int 24 24 Try.underlying24 wm w0.heap.size vo o horm s (by omega) hbm.size
  have hgo : ∀ {k : Nat}, vo.ownBlock = some k → k ≠ bm := fun {k} hk e => by
    subst e
    obtain ⟨-, C, hC⟩ := hob _ hk
    rw [hmo] at hC; cases hC
  refine ⟨wm, A', c', w', hrm, hr, ⟨hbm.grown hg hbm.size (fun k hk => (hob k hk).1), h.st.bm0, hmm.kept hg (fun e => hgo e rfl), ho', ?_, fun k hk => ?_⟩, ?_, fun r hr => ?_⟩
  · refine h.st.out.keep (fun r hr => ?_) (fun k hk => ?_) (fun _ h => h)
    · obtain ⟨-, C, hC⟩ := hub r hr
      have h1 := grown_cells hgm hC (hne hC)
      refine (grown_cells hg h1 (fun e => ?_)).trans hC.symm
      obtain ⟨-, C', hC'⟩ := hob r e
      rw [hC] at hC'; cases hC'
    · obtain ⟨h1, h2, h3, C, hC⟩ := h.st.fs k hk
      exact (grown_cells hg (grown_cells hgm hC (hne hC)) (fun e => h3 e)).trans hC.symm
  · obtain ⟨h1, h2, h3, C, hC⟩ := h.st.fs k hk
    refine ⟨h1, Nat.lt_of_lt_of_le h2 (Nat.le_trans hgm.size hg.size), fun e => ?_, C, grown_cells hg (grown_cells hgm hC (hne hC)) (fun e => h3 e)⟩
    rcases hw with hw | ⟨r', hr', hge⟩
    · exact h3 (hw.symm.trans e)
    · rw [hr'] at e
      have : r' = k := Option.some.inj e
      have := hgm.size
      omega
  · exact owns_keep h.row fun r hr => by
      obtain ⟨-, C, hC⟩ := hrb r hr
      exact (grown_cells hg (grown_cells hgm hC (hne hC)) (fun e => (h.ap r hr).1 e)).trans hC.symm
  · refine ⟨fun e => ?_, (h.ap r hr).2⟩
    rcases hw with hw | ⟨r', hr', hge⟩
    · exact (h.ap r hr).1 (hw.symm.trans e)
    · rw [hr'] at e
      have : r' = r := Option.some.inj e
      have := owns_lt h.row hr
      have := hgm.size
      omega
/-- the row is laid behind the rows -/
theorem StdSt2.done {bm : Nat} {F : Nat → Prop} {w0 wr : World} {vo vout : Value} {A : Option Addr} {c : Nat} {o : List Int} {rows : Tb} {x : List Int} (h : StdSt2 bm F w0 wr vo vout (.slice A x.length c) o rows x) (hf : Fits x) (hl : rows.length ≤ 100000) :
    ∃ A' c' w', (Builtin.append_ #[23, 23] 23 #[vout, .slice (some ⟨wr.heap.size, 0, none⟩) 1 1]).run Try.prog (wr.alloc (.cells #[.slice A x.length c] 24)) = .ok (.slice A' (rows.length + 1) c') w' ∧
      StdSt bm (fun k => F k ∨ (Value.slice A x.length c).ownBlock = some k) w0 w' vo (.slice A' (rows.length + 1) c') o (rows ++ [x]) := by
  have hub := h.st.out.block
  have hrb := owns_block h.row
  have hob := owns_block h.st.ord
  have hF2 : ∀ k, (F k ∨ (Value.slice A x.length c).ownBlock = some k) → k < wr.heap.size ∧ vout.ownBlock ≠ some k := fun k hk => by
    rcases hk with hk | hk
    · obtain ⟨h1, h2, h3, C, hC⟩ := h.st.fs k hk
      refine ⟨h2, fun e => ?_⟩
      obtain ⟨-, C', hC'⟩ := hub k e
      rw [hC] at hC'; cases hC'
    · obtain ⟨h1, C, hC⟩ := hrb k hk
      refine ⟨(Array.getElem?_eq_some_iff.1 hC).1, fun e => ?_⟩
      obtain ⟨-, C', hC'⟩ := hub k e
      rw [hC] at hC'; cases hC'
  obtain ⟨A', c', w', hr, ho', hg, hw⟩ := push_row (ty := 23) Try.underlying23 info24p wr w0.heap.size (fun k => F k ∨ (Value.slice A x.length c).ownBlock = some k) vout rows (h.st.out.keep (fun _ _ => rfl) (Ag.refl _ _) (fun k hk => .inl hk)) A x.length c x ((IntsF.of_own h.row hf).mono fun k hk => .inr hk) hF2 (by omega) h.st.below.size
  have hne : ∀ {k : Nat} {C : Array Value} {fr : Nat × Nat}, wr.heap[k]? = some (.cells C 3 fr) → vout.ownBlock ≠ some k := fun {k C fr} hc e => by
    obtain ⟨-, C', hC'⟩ := hub k e
    rw [hc] at hC'; cases hC'
  refine ⟨A', c', w', hr, ⟨h.st.below.grown hg h.st.below.size (fun k hk => (hub k hk).1), h.st.bm0, h.st.map.kept hg (fun e => ?_), owns_keep h.st.ord fun r hr => ?_, ho', fun k hk => ?_⟩⟩
  · obtain ⟨es, cl, hm⟩ := h.st.map.isMapObj
    obtain ⟨-, C', hC'⟩ := hub bm e
    rw [hm] at hC'; cases hC'
  · obtain ⟨-, C, hC⟩ := hob r hr
    exact (grown_cells hg hC (hne hC)).trans hC.symm
  · have h2 := (hF2 k hk).1
    rcases hk with hk | hk
    · obtain ⟨h1, _, h3, C, hC⟩ := h.st.fs k hk
      exact ⟨h1, Nat.lt_of_lt_of_le h2 hg.size, h3, C, grown_cells hg hC (hne hC)⟩
    · obtain ⟨h1, C, hC⟩ := hrb k hk
      exact ⟨h1, Nat.lt_of_lt_of_le h2 hg.size, (h.ap k hk).1, C, grown_cells hg hC (hne hC)⟩
end Go.Proofs
namespace Go.Proofs
open Go.RowKit Go.Shelf Go.Proofs.Ct
/-- block b holds the numbers x (and may be longer) -/
def XsAt (w : World) (b : Nat) (x : List Int) : Prop := ∃ C : Array Value, w.heap[b]? = some (.cells C 3 (0, 0)) ∧ x.length ≤ C.size ∧ ∀ k, k < x.length → C[k]? = some (.int .i64 (x.getD k 0))
theorem getD_set {α : Type} {d : α} (l : List α) (k j : Nat) (v : α) : (l.set k v).getD j d = if k = j ∧ k < l.length then v else l.getD j d := by
  rw [List.getD_eq_getElem?_getD, List.getElem?_set, List.getD_eq_getElem?_getD]
  by_cases h : k = j
  · subst h
    by_cases h2 : k < l.length <;> simp [h2]
  · simp [h]
section
variable {w w' : World} {b k : Nat} {x y : List Int}
theorem XsAt.lt (h : XsAt w b x) : b < w.heap.size := by obtain ⟨C, hC, -⟩ := h; exact (Array.getElem?_eq_some_iff.1 hC).1
theorem XsAt.keep (h : XsAt w b x) (hk : w'.heap[b]? = w.heap[b]?) : XsAt w' b x := by
  obtain ⟨C, hC, h2, h3⟩ := h
  exact ⟨C, hk.trans hC, h2, h3⟩
theorem XsAt.below (h : XsAt w b x) (hb : Below w.heap.size w w') : XsAt w' b x := h.keep (hb.block _ h.lt)
theorem XsAt.grown {row : Option Nat} (h : XsAt w b x) (hg : w.grownBy w' row) (hr : row ≠ some b) : XsAt w' b x := h.keep (hg.block _ h.lt (Ne.symm hr))
theorem XsAt.cell (h : XsAt w b x) (hk : k < x.length) : w.cell? ⟨b, k, none⟩ = some (.int .i64 (x.getD k 0)) := by
  obtain ⟨C, hC, -, h3⟩ := h
  rw [cell_of_row _ _ _ _ _ _ hC]; exact h3 k hk
theorem XsAt.frozen (h : XsAt w b x) (k : Nat) : w.frozen? ⟨b, k, none⟩ = false := by
  obtain ⟨C, hC, -⟩ := h
  simp [World.frozen?, hC]
theorem XsAt.set (h : XsAt w b x) (hk : k < x.length) (v : Int) : XsAt (w.setCell ⟨b, k, none⟩ (.int .i64 v)) b (x.set k v) := by
  obtain ⟨C, hC, h2, h3⟩ := h
  refine ⟨C.setIfInBounds k (.int .i64 v), by simp [World.setCell, Array.getElem?_modify, hC], by simpa using h2, fun j hj => ?_⟩
  have hj' : j < x.length := by simpa using hj
  rw [getD_set]
  by_cases e : k = j
  · subst e
    rw [if_pos ⟨rfl, hk⟩]
    have : k < C.size := by omega
    simp [this]
  · rw [if_neg (fun hh => e hh.1), Array.getElem?_setIfInBounds_ne e]
    exact h3 j hj'
theorem XsAt.ints (h : XsAt w b x) {n cap : Nat} (hn : x.length = n) (hc : n ≤ cap) (hm : cap ≤ 9223372036854775807) (hf : Fits x) : IntsAt w (.slice (some ⟨b, 0, none⟩) n cap) x := by
  refine ⟨⟨_, n, cap, rfl, by simp [_root_.Go.Proofs.ints, hn], hc, by simpa [maxLen] using hm, fun _ => ⟨b, 0, rfl, fun j v hv => ?_⟩⟩, hf⟩
  have hj : j < x.length := by have := (List.getElem?_eq_some_iff.1 hv).1; simpa [_root_.Go.Proofs.ints] using this
  rw [Nat.zero_add, h.cell hj, ← hv]
  simp [_root_.Go.Proofs.ints, hj, List.getD_eq_getElem?_getD]
theorem grown_setCell (w : World) (b k : Nat) (v : Value) : w.grownBy (w.setCell ⟨b, k, none⟩ v) (some b) :=
  ⟨rfl, rfl, rfl, by simp [World.setCell], fun i _ hne => Below.heap_setCell w ⟨b, k, none⟩ v i (fun e => hne (by rw [e]))⟩
end
/-- rows of the call's own, in type t with elements of type e -/
structure OutSt (e : TypeId) (F : Nat → Prop) (w0 wr : World) (vout : Value) (rows : List (List Int)) : Prop where
  below : Below w0.heap.size w0 wr
  out : OwnT e w0.heap.size F wr vout rows
  fs : ∀ k, F k → w0.heap.size ≤ k ∧ k < wr.heap.size ∧ ∃ C, wr.heap[k]? = some (.cells C 3 (0, 0))
structure OutSt2 (e : TypeId) (F : Nat → Prop) (w0 wr : World) (vout vr : Value) (rows : List (List Int)) (x : List Int) : Prop where
  st : OutSt e F w0 wr vout rows
  row : OwnI w0.heap.size wr vr x
  ap : ∀ r, vr.ownBlock = some r → ¬ F r
theorem OutSt.nil (e : TypeId) {w0 wr : World} (h : Below w0.heap.size w0 wr) : OutSt e (fun _ => False) w0 wr (.slice none 0 0) [] :=
  ⟨h, ⟨[], World.ownsRow_nil _ _ _ _, RowsF.nil _ _⟩, fun _k hk => hk.elim⟩
theorem OutSt.grown {e : TypeId} {F : Nat → Prop} {w0 wr w' : World} {vout : Value} {rows : List (List Int)} {row : Option Nat} (h : OutSt e F w0 wr vout rows) (hg : wr.grownBy w' row)
    (h0 : ∀ r, row = some r → w0.heap.size ≤ r ∧ ¬ F r ∧ vout.ownBlock ≠ some r) : OutSt e F w0 w' vout rows := by
  have hub := h.out.block
  refine ⟨h.below.grown hg h.below.size (fun k hk => (h0 k hk).1), h.out.keep (fun r hr => ?_) (Ag.grown hg fun k hk => ⟨(h.fs k hk).2.1, fun e => (h0 _ e).2.1 hk⟩) (fun _ h => h), fun k hk => ?_⟩
  · obtain ⟨-, C, hC⟩ := hub r hr
    exact hg.block r (Array.getElem?_eq_some_iff.1 hC).1 (fun e => (h0 r e.symm).2.2 hr)
  · obtain ⟨h1, h2, C, hC⟩ := h.fs k hk
    exact ⟨h1, Nat.lt_of_lt_of_le h2 hg.size, C, grown_cells hg hC (fun e => (h0 _ e).2.1 hk)⟩
theorem OutSt.below' {e : TypeId} {F : Nat → Prop} {w0 wr w' : World} {vout : Value} {rows : List (List Int)} (h : OutSt e F w0 wr vout rows) (hb : Below wr.heap.size wr w') : OutSt e F w0 w' vout rows :=
  h.grown (row := none) ⟨hb.os, hb.tape, hb.output, hb.size, fun k hk _ => hb.block k hk⟩ (fun r hr => by cases hr)
theorem OutSt2.below' {e : TypeId} {F : Nat → Prop} {w0 wr w' : World} {vout vr : Value} {rows : List (List Int)} {x : List Int} (h : OutSt2 e F w0 wr vout vr rows x) (hb : Below wr.heap.size wr w') : OutSt2 e F w0 w' vout vr rows x :=
  ⟨h.st.below' hb, owns_below h.row hb, h.ap⟩
/-- a row that another call laid joins -/
theorem OutSt.with_row {e : TypeId} {F : Nat → Prop} {w0 wr w' : World} {vout vr : Value} {rows : List (List Int)} {x : List Int} (h : OutSt e F w0 wr vout rows) (hb : Below wr.heap.size wr w') (hr : OwnI wr.heap.size w' vr x) : OutSt2 e F w0 w' vout vr rows x :=
  ⟨h.below' hb, owns_base hr h.below.size, fun r hr' hF => by
    have h1 := (owns_block hr r hr').1
    have h2 := (h.fs r hF).2.1
    omega⟩
theorem OutSt2.add {e : TypeId} (he : e ≠ 3) (t : TypeId) (ht : Try.prog.underlying t = some (.slice 3)) {F : Nat → Prop} {w0 wr : World} {vout vr : Value} {rows : List (List Int)} {x : List Int} (h : OutSt2 e F w0 wr vout vr rows x) (z : Int) (hx : x.length ≤ 1000000) :
    ∃ A' c' w', (Builtin.append_ #[t, t] t #[vr, .slice (some ⟨wr.heap.size, 0, none⟩) 1 1]).run Try.prog (wr.alloc (.cells #[.int .i64 z] 3)) = .ok (.slice A' (x.length + 1) c') w' ∧ OutSt2 e F w0 w' vout (.slice A' (x.length + 1) c') rows (x ++ [z]) := by
  obtain ⟨A', c', w', hr, ho, hg, hw⟩ := push_int t t ht wr w0.heap.size vr x h.row z (by omega) h.st.below.size
  have hrb := owns_block h.row
  have hst : OutSt e F w0 w' vout rows := h.st.grown hg fun r hr => by
    obtain ⟨h1, C, hC⟩ := hrb r hr
    refine ⟨h1, h.ap r hr, fun e' => ?_⟩
    obtain ⟨-, C', hC'⟩ := h.st.out.block r e'
    rw [hC] at hC'
    injection hC' with h5
    injection h5 with _ h6 _
    exact he h6.symm
  refine ⟨A', c', w', hr, hst, ho, fun r hr => ?_⟩
  rcases hw with hw | ⟨r', hr', hge⟩
  · rw [hw] at hr
    exact h.ap r hr
  · have e : r' = r := by rw [hr'] at hr; exact Option.some.inj hr
    subst e
    exact fun e => absurd (h.st.fs _ e).2.1 (by omega)
theorem OutSt2.done {t e : TypeId} (he : e ≠ 3) (ht : Try.prog.underlying t = some (.slice e)) (hi : ∃ i, Try.prog.info? e = some i ∧ i.zero = some (.slice none 0 0) ∧ i.size = 1 ∧ i.bytes = 24) {F : Nat → Prop} {w0 wr : World} {vout : Value} {A : Option Addr} {n c : Nat} {rows : List (List Int)} {x : List Int} (h : OutSt2 e F w0 wr vout (.slice A n c) rows x) (hf : Fits x) (hl : rows.length ≤ 1000000) :
    ∃ A' c' w', (Builtin.append_ #[t, t] t #[vout, .slice (some ⟨wr.heap.size, 0, none⟩) 1 1]).run Try.prog (wr.alloc (.cells #[.slice A n c] e)) = .ok (.slice A' (rows.length + 1) c') w' ∧
      OutSt e (fun k => F k ∨ (Value.slice A n c).ownBlock = some k) w0 w' (.slice A' (rows.length + 1) c') (rows ++ [x]) := by
  have hub := h.st.out.block
  have hrb := owns_block h.row
  have hne : ∀ {k : Nat} {C : Array Value} {fr : Nat × Nat}, wr.heap[k]? = some (.cells C 3 fr) → vout.ownBlock ≠ some k := fun {k C fr} hc e' => by
    obtain ⟨-, C', hC'⟩ := hub k e'
    rw [hc] at hC'
    injection hC' with h5
    injection h5 with _ h6 _
    exact he h6.symm
  have hF2 : ∀ k, (F k ∨ (Value.slice A n c).ownBlock = some k) → k < wr.heap.size ∧ vout.ownBlock ≠ some k := fun k hk => by
    rcases hk with hk | hk
    · obtain ⟨h1, h2, C, hC⟩ := h.st.fs k hk
      exact ⟨h2, hne hC⟩
    · obtain ⟨h1, C, hC⟩ := hrb k hk
      exact ⟨(Array.getElem?_eq_some_iff.1 hC).1, hne hC⟩
  obtain ⟨A', c', w', hr, ho', hg, hw⟩ := push_row (ty := t) ht hi wr w0.heap.size (fun k => F k ∨ (Value.slice A n c).ownBlock = some k) vout rows (h.st.out.keep (fun _ _ => rfl) (Ag.refl _ _) (fun k hk => .inl hk)) A n c x ((IntsF.of_own h.row hf).mono fun k hk => .inr hk) hF2 (by omega) h.st.below.size
  refine ⟨A', c', w', hr, ⟨h.st.below.grown hg h.st.below.size (fun k hk => (hub k hk).1), ho', fun k hk => ?_⟩⟩
  have h2 := (hF2 k hk).1
  rcases hk with hk | hk
  · obtain ⟨h1, _, C, hC⟩ := h.st.fs k hk
    exact ⟨h1, Nat.lt_of_lt_of_le h2 hg.size, C, grown_cells hg hC (hne hC)⟩
  · obtain ⟨h1, C, hC⟩ := hrb k hk
    exact ⟨h1, Nat.lt_of_lt_of_le h2 hg.size, C, grown_cells hg hC (hne hC)⟩
end Go.Proofs
namespace Go.Proofs
open Go.RowKit Go.Shelf Go.Proofs.Ct
set_option maxRecDepth 100000 in
set_option maxHeartbeats 400000 in
theorem equal142_any (w : World) (va vb : Value) (x y : List Int) (ha : IntsAt w va x) (hb : IntsAt w vb y) :
    Calls Try.prog 188 #[va, vb] w fun e w' => e = .returned (.bool (decide (x = y))) ∧ ∃ q, w' = w.drewN q := by
  obtain ⟨A3, c3, rfl, hd1, hd2, hd⟩ := ha.open_
  obtain ⟨A4, c4, rfl, he1, he2, he⟩ := hb.open_
  have HD := Lib.hid hd
  have HE := Lib.hid he
  clear ha hb hd he
  have HN := Lib.hid (fun (h : x.length ≠ y.length) (e : x = y) => h (by rw [e]))
  by_cases hxy : x.length = y.length
  · have d3 : ((x.length : Int) != (y.length : Int)) = false := by simp; omega
    have d4 : (x.length != y.length) = false := by simp; omega
    have HX := Lib.hid hxy
    clear hxy
    go_enter Try.func188, Try.ntmps188
    go_wp2_with fail
    go_loopw [5, 13] (fun _ i wr => ∃ j : Nat, j ≤ x.length ∧ i = .int .i64 j ∧ (∀ t, t < j → x.getD t 0 = y.getD t 0) ∧ ∃ q, wr = w.drewN q) (fun _ i _ => x.length - (intOf i).toNat)
    case atStart => exact ⟨0, Nat.zero_le _, rfl, fun j hj => absurd hj (by omega), 0, rfl⟩
    case round =>
      obtain ⟨j, hj, rfl, hzj, qj, rfl⟩ := hrel
      have HZJ := Lib.hid hzj
      clear hzj
      by_cases hjl : j < x.length
      · obtain ⟨b3, o3, rfl, hx⟩ := HD.out (by omega)
        obtain ⟨b4, o4, rfl, hy⟩ := HE.out (by rw [← HX.out]; omega)
        have hx1 := hx j hjl
        have hy1 := hy j (by rw [← HX.out]; omega)
        have hj0 : (0 : Int) ≤ (j : Int) := Int.natCast_nonneg _
        have hjb : (j : Int) < (y.length : Int) := by rw [← HX.out]; omega
        have hja : (j : Int) < (x.length : Int) := by omega
        have HM := Lib.hid (fun h => getD_ne (A := x) (B := y) (d := 0) (k := j) h)
        clear hx hy
        generalize hse : x.getD j 0 = s at *
        generalize hte : y.getD j 0 = t at *
        have HSE := Lib.hid hse
        have HTE := Lib.hid hte
        clear hse hte
        by_cases hst : s = t
        · have d5 : (s != t) = false := by simpa using hst
          have HS := Lib.hid hst
          clear hst
          go_wp2_with fail
          go_quiet (fail)
          go_wp2_with fail
          go_roundw
          case rel => exact ⟨j + 1, by omega, by go_num, all_succ HZJ.out (by rw [HSE.out, HTE.out]; exact HS.out), (by first | exact ⟨_, rfl⟩ | exact ex_drewN)⟩
          case measure => simp [intOf]; omega
        · have d5 : (s != t) = true := by simpa using hst
          have HS := Lib.hid hst
          clear hst
          go_wp2_with fail
          go_quiet (fail)
          go_wp2_with fail
          go_ret
          exact ⟨ret_bool (by simpa using HM.out HS.out), (by first | exact ⟨_, rfl⟩ | exact ex_drewN)⟩
      · obtain rfl : j = x.length := by omega
        go_wp2_with fail
        go_ret
        exact ⟨ret_bool (by simpa using getD_ext HX.out HZJ.out), (by first | exact ⟨_, rfl⟩ | exact ex_drewN)⟩
  · have d3 : ((x.length : Int) != (y.length : Int)) = true := by simp; omega
    have d4 : (x.length != y.length) = true := by simp; omega
    have HX := Lib.hid hxy
    clear hxy
    go_enter Try.func188, Try.ntmps188
    go_wp2_with fail
    go_ret
    exact ⟨ret_bool (by simpa using HN.out HX.out), 0, rfl⟩
set_option maxRecDepth 100000 in
set_option maxHeartbeats 400000 in
theorem equal143_any (w : World) (va vb : Value) (x y : List Int) (ha : IntsAt w va x) (hb : IntsAt w vb y) :
    Calls Try.prog 191 #[va, vb] w fun e w' => e = .returned (.bool (decide (x = y))) ∧ ∃ q, w' = w.drewN q := by
  obtain ⟨A3, c3, rfl, hd1, hd2, hd⟩ := ha.open_
  obtain ⟨A4, c4, rfl, he1, he2, he⟩ := hb.open_
  have HD := Lib.hid hd
  have HE := Lib.hid he
  clear ha hb hd he
  have HN := Lib.hid (fun (h : x.length ≠ y.length) (e : x = y) => h (by rw [e]))
  by_cases hxy : x.length = y.length
  · have d3 : ((x.length : Int) != (y.length : Int)) = false := by simp; omega
    have d4 : (x.length != y.length) = false := by simp; omega
    have HX := Lib.hid hxy
    clear hxy
    go_enter Try.func191, Try.ntmps191
    go_wp2_with fail
    go_loopw [5, 13] (fun _ i wr => ∃ j : Nat, j ≤ x.length ∧ i = .int .i64 j ∧ (∀ t, t < j → x.getD t 0 = y.getD t 0) ∧ ∃ q, wr = w.drewN q) (fun _ i _ => x.length - (intOf i).toNat)
    case atStart => exact ⟨0, Nat.zero_le _, rfl, fun j hj => absurd hj (by omega), 0, rfl⟩
    case round =>
      obtain ⟨j, hj, rfl, hzj, qj, rfl⟩ := hrel
      have HZJ := Lib.hid hzj
      clear hzj
      by_cases hjl : j < x.length
      · obtain ⟨b3, o3, rfl, hx⟩ := HD.out (by omega)
        obtain ⟨b4, o4, rfl, hy⟩ := HE.out (by rw [← HX.out]; omega)
        have hx1 := hx j hjl
        have hy1 := hy j (by rw [← HX.out]; omega)
        have hj0 : (0 : Int) ≤ (j : Int) := Int.natCast_nonneg _
        have hjb : (j : Int) < (y.length : Int) := by rw [← HX.out]; omega
        have hja : (j : Int) < (x.length : Int) := by omega
        have HM := Lib.hid (fun h => getD_ne (A := x) (B := y) (d := 0) (k := j) h)
        clear hx hy
        generalize hse : x.getD j 0 = s at *
        generalize hte : y.getD j 0 = t at *
        have HSE := Lib.hid hse
        have HTE := Lib.hid hte
        clear hse hte
        by_cases hst : s = t
        · have d5 : (s != t) = false := by simpa using hst
          have HS := Lib.hid hst
          clear hst
          go_wp2_with fail
          go_quiet (fail)
          go_wp2_with fail
          go_roundw
          case rel => exact ⟨j + 1, by omega, by go_num, all_succ HZJ.out (by rw [HSE.out, HTE.out]; exact HS.out), (by first | exact ⟨_, rfl⟩ | exact ex_drewN)⟩
          case measure => simp [intOf]; omega
        · have d5 : (s != t) = true := by simpa using hst
          have HS := Lib.hid hst
          clear hst
          go_wp2_with fail
          go_quiet (fail)
          go_wp2_with fail
          go_ret
          exact ⟨ret_bool (by simpa using HM.out HS.out), (by first | exact ⟨_, rfl⟩ | exact ex_drewN)⟩
      · obtain rfl : j = x.length := by omega
        go_wp2_with fail
        go_ret
        exact ⟨ret_bool (by simpa using getD_ext HX.out HZJ.out), (by first | exact ⟨_, rfl⟩ | exact ex_drewN)⟩
  · have d3 : ((x.length : Int) != (y.length : Int)) = true := by simp; omega
    have d4 : (x.length != y.length) = true := by simp; omega
    have HX := Lib.hid hxy
    clear hxy
    go_enter Try.func191, Try.ntmps191
    go_wp2_with fail
    go_ret
    exact ⟨ret_bool (by simpa using HN.out HX.out), 0, rfl⟩
theorem eg142 : ∀ args w, (callFunc 188 args).run Try.prog w = .ok (.enter 188 args) w := enters_of Try.func188 (by kernel_rfl) rfl
set_option maxRecDepth 100000 in
set_option maxHeartbeats 400000 in
theorem equalF141_any (w : World) (va vb : Value) (A B : List (List Int)) (ha : Tab w va A) (hb : Tab w vb B) :
    Calls Try.prog 187 #[va, vb, .func (.func 188) #[] #[]] w fun e w' => e = .returned (.bool (decide (A = B))) ∧ ∃ q, w' = w.drewN q := by
  have HEG := eg142
  obtain ⟨A0, ca, rfl, ha1, ha2, ha3⟩ := ha.open_
  obtain ⟨B0, cb, rfl, hb1, hb2, hb3⟩ := hb.open_
  have HA := Lib.hid ha3
  have HB := Lib.hid hb3
  clear ha hb ha3 hb3
  by_cases hl : A.length = B.length
  · have d1 : ((A.length : Int) != (B.length : Int)) = false := by simp; omega
    have d2 : (A.length != B.length) = false := by simp; omega
    have HL := Lib.hid hl
    clear hl
    go_enter Try.func187, Try.ntmps187
    go_wp2_with fail
    go_loopw [17] (fun i wr => ∃ k : Nat, k ≤ A.length ∧ i = .int .i64 k ∧ (∀ j, j < k → A.getD j [] = B.getD j []) ∧ ∃ q, wr = w.drewN q) (fun i _ => A.length - (intOf i).toNat)
    case atStart => exact ⟨0, Nat.zero_le _, rfl, fun j hj => absurd hj (by omega), 0, rfl⟩
    case round =>
      obtain ⟨k, hk, rfl, hz, q, rfl⟩ := hrel
      have HZ := Lib.hid hz
      clear hz
      by_cases hlt : k < A.length
      · obtain ⟨b1, o1, rfl, hc1⟩ := HA.out (by omega)
        obtain ⟨b2, o2, rfl, hc2⟩ := HB.out (by rw [← HL.out]; omega)
        obtain ⟨u1, hu1, hr1⟩ := hc1 k hlt
        obtain ⟨u2, hu2, hr2⟩ := hc2 k (by rw [← HL.out]; omega)
        have hk0 : (0 : Int) ≤ (k : Int) := Int.natCast_nonneg _
        have hkb : (k : Int) < (B.length : Int) := by rw [← HL.out]; omega
        have hka : (k : Int) < (A.length : Int) := by omega
        have HN := Lib.hid (fun h => getD_ne (A := A) (B := B) (d := []) (k := k) h)
        have hcall : Calls Try.prog 188 #[u1, u2] (w.drewN q) fun e w' => e = .returned (.bool (decide (A.getD k [] = B.getD k []))) ∧ ∃ q', w' = (w.drewN q).drewN q' := equal142_any (w.drewN q) u1 u2 _ _ (hr1.drewN q) (hr2.drewN q)
        have HXY : Hid (A.getD k [] = B.getD k [] → ∀ j, j < k + 1 → A.getD j [] = B.getD j []) := Lib.hid fun h => all_succ HZ.out h
        clear hc1 hc2 hr1 hr2
        by_cases hxy : A.getD k [] = B.getD k []
        · rw [decide_eq_true hxy] at hcall
          have HC := Lib.hid hcall
          have HS := Lib.hid (HXY.out hxy)
          clear hcall hxy
          go_wp2_with (go_at_fn 188; (refine HC.out.mono ?_); rintro e w' ⟨rfl, q', rfl⟩)
          go_roundw
          case rel => exact ⟨k + 1, by omega, by go_num, HS.out, (by first | exact ⟨_, rfl⟩ | exact ex_drewN)⟩
          case measure => simp [intOf]; omega
        · rw [decide_eq_false hxy] at hcall
          have HC := Lib.hid hcall
          have HS := Lib.hid (HN.out hxy)
          clear hcall hxy
          go_wp2_with (go_at_fn 188; (refine HC.out.mono ?_); rintro e w' ⟨rfl, q', rfl⟩)
          go_ret
          exact ⟨ret_bool (by simpa using HS.out), (by first | exact ⟨_, rfl⟩ | exact ex_drewN)⟩
      · obtain rfl : k = A.length := by omega
        go_wp2_with fail
        go_ret
        exact ⟨ret_bool (by simpa using getD_ext HL.out HZ.out), _, rfl⟩
  · have d1 : ((A.length : Int) != (B.length : Int)) = true := by simp; omega
    have d2 : (A.length != B.length) = true := by simp; omega
    have HL := Lib.hid hl
    clear hl
    go_enter Try.func187, Try.ntmps187
    go_wp2_with fail
    go_ret
    exact ⟨ret_bool (by simpa using fun e => HL.out (by rw [e])), 0, rfl⟩
theorem same109_any (w : World) (va vb : Value) (A B : List (List Int)) (ha : Tab w va A) (hb : Tab w vb B) :
    Calls Try.prog 133 #[va, vb] w fun e w' => e = .returned (.bool (decide (A = B))) ∧ ∃ q, w' = w.drewN q := by
  have HC := Lib.hid (equalF141_any w va vb A B ha hb)
  clear ha hb
  generalize decide (A = B) = r at *
  go_enter Try.func133, Try.ntmps133
  go_wp2_with (go_at_call 187; (refine HC.out.mono ?_); rintro e w' ⟨rfl, q, rfl⟩)
  go_ret
  exact ⟨rfl, _, rfl⟩
def ltrI (c : Int) : Int := if c % 2 = 1 then -(c / 2 + 1) else c / 2 + 1
theorem letter_ltrI (c : Nat) : letter c = ltrI c := by
  unfold letter ltrI
  by_cases h : c % 2 = 1
  · rw [if_pos h, if_pos (by omega)]; omega
  · rw [if_neg h, if_neg (by omega)]; omega
set_option maxRecDepth 100000 in
theorem letter110_int (w : World) (c : Int) (h0 : 0 ≤ c) (h1 : c ≤ 1000000) : Calls Try.prog 134 #[.int .i64 c] w fun e w' => e = .returned (.int .i64 (ltrI c)) ∧ w = w' := by
  by_cases h : c % 2 = 1
  · have d1 : (c % 2 == 1) = true := beq_iff_eq.2 h
    have HL : Hid (ltrI c = -(c / 2 + 1)) := Lib.hid (if_pos h)
    clear h
    go_enter Try.func134, Try.ntmps134
    go_wp2_with fail
    go_ret
    exact ⟨by rw [HL.out]; rfl, rfl⟩
  · have d1 : (c % 2 == 1) = false := beq_eq_false_iff_ne.2 h
    have HL : Hid (ltrI c = c / 2 + 1) := Lib.hid (if_neg h)
    clear h
    go_enter Try.func134, Try.ntmps134
    go_wp2_with fail
    go_ret
    exact ⟨by rw [HL.out]; rfl, rfl⟩
theorem letter110_any (w : World) (c : Nat) (hc : c ≤ 1000000) : Calls Try.prog 134 #[.int .i64 (c : Int)] w fun e w' => e = .returned (.int .i64 (letter c)) ∧ w = w' := by
  rw [letter_ltrI]
  exact letter110_int w c (by omega) (by omega)
theorem src_ints {t : TypeId} (ht : Try.prog.underlying t = some (.slice 3)) {w : World} {v : Value} {y : List Int} (h : IntsAt w v y) : Src Try.prog 1 t v y.length (ints y) w := by
  obtain ⟨⟨A, n, cap, rfl, hn, hc, hm, hr⟩, -⟩ := h
  have hl : n = y.length := by simpa [ints] using hn
  subst hl
  rcases Nat.eq_zero_or_pos y.length with h0 | h0
  · obtain rfl : y = [] := List.length_eq_zero_iff.1 h0
    cases A with
    | none => exact Src.ofNil w ht cap
    | some a => exact Src.ofSlice w ht a 0 cap [] rfl (fun j u hu => by simp at hu) (fun u hu => by cases hu)
  · obtain ⟨b, off, rfl, hrow⟩ := hr h0
    exact Src.ofSlice w ht _ _ cap (ints y) (by simp [ints]) (fun j u hu => by rw [Addr.add_lit]; exact hrow j u hu) (fun u hu => by obtain ⟨x, -, rfl⟩ := List.mem_map.1 hu; rfl)
/-- append([]int{}, y...): the copy lies in a block of its own -/
theorem run_copy {t : TypeId} (ht : Try.prog.underlying t = some (.slice 3)) {w : World} {v : Value} {y : List Int} (h : IntsAt w v y) (hl : y.length ≤ 1000000) :
    ∃ A cap w', (Builtin.append_ #[t, t] t #[.slice (some ⟨w.heap.size, 0, none⟩) 0 0, v]).run Try.prog (w.alloc (.cells #[] 3)) = .ok (.slice A y.length cap) w' ∧
      Below w.heap.size w w' ∧ OwnI w.heap.size w' (.slice A y.length cap) y := by
  obtain ⟨i, hi, hz, hs, hby⟩ := info3p
  have hal : Below w.heap.size w (w.alloc (.cells #[] 3)) := (Below.refl _ _).alloc (Nat.le_refl _) _
  have hnew := heap_alloc_new w (.cells #[] 3)
  have hsz : (w.alloc (.cells #[] 3)).heap.size = w.heap.size + 1 := by simp
  have hsrc := src_ints ht (h.below hal)
  generalize w.alloc (.cells #[] 3) = W at *
  rcases Nat.eq_zero_or_pos y.length with h0 | h0
  · obtain rfl : y = [] := List.length_eq_zero_iff.1 h0
    have := run_append_room_src (P := Try.prog) W t t t 3 i ht hi w.heap.size 0 0 0 v 0 [] (by rw [hs]; exact hsrc) (Nat.le_refl _) (fun j hj => absurd hj (by simp)) (fun j hj => absurd hj (by simp))
    exact ⟨_, 0, W, this, hal, rfl, .inr ⟨w.heap.size, 0, #[], rfl, Nat.le_refl _, hnew, Nat.le_refl _, by simp, rfl, rfl⟩⟩
  · have hold : (Builtin.firstCells i.size 0 (.slice (some ⟨w.heap.size, 0, none⟩) 0 0)).run Try.prog W.drew = .ok ([] : List Value).toArray W.drew := by
      rw [hs]
      exact run_firstCells_some W.drew 1 0 ⟨w.heap.size, 0, none⟩ 0 0 [] rfl (fun j u hu => by simp at hu)
    have hg := run_append_grow_src (P := Try.prog) W t t t 3 i (.int .i64 0) ht hi hz (some ⟨w.heap.size, 0, none⟩) 0 0 [] hold v y.length (ints y) (by rw [hs]; exact hsrc) (by omega) (by omega) (growslice_fits (by omega) (by rw [hby]; omega))
    simp only [Nat.zero_add, List.nil_append] at hg
    have hcm := grownCap_le_maxLen W y.length 0 3 (by unfold maxLen; omega)
    have hcg := grownCap_ge W y.length 0 3
    refine ⟨_, _, _, hg, hal.trans ⟨rfl, rfl, rfl, by simp, fun k hk => (Below.heap_alloc W.drew _ k (by show k < W.heap.size; omega))⟩, by simp [ints], .inr ⟨W.heap.size, _, _, rfl, by omega, heap_alloc_new W.drew _, hcg, hcm, ?_, ?_⟩⟩
    · simp [ints, size_zeroCells, Value.cells]
      omega
    · simp [ints]
theorem eqnil_none (w : World) (n c : Nat) : (binOp .eql 25 (.slice none n c) (.slice none 0 0)).run Try.prog w = .ok (.bool true) w := by kernel_rfl
theorem eqnil_some (w : World) (a : Addr) (n c : Nat) : (binOp .eql 25 (.slice (some a) n c) (.slice none 0 0)).run Try.prog w = .ok (.bool false) w := by kernel_rfl
set_option maxRecDepth 100000 in
theorem clone71_any (w : World) (v : Value) (xs : List Int) (h : IntsAt w v xs) (hl : xs.length ≤ 1000000) :
    Calls Try.prog 95 #[v] w fun e w' => ∃ A c, e = .returned (.slice A xs.length c) ∧ OwnI w.heap.size w' (.slice A xs.length c) xs ∧ Below w.heap.size w w' := by
  obtain ⟨A0, c0, w', hr, hb, ho⟩ := run_copy Try.underlying25 h hl
  have HR := Lib.hid hr
  have HB := Lib.hid hb
  have HO := Lib.hid ho
  obtain ⟨A, cap, rfl, hcap, hmax, hc⟩ := h.open_
  cases A with
  | none =>
    have h0 : xs = [] := by
      rcases Nat.eq_zero_or_pos xs.length with h0 | h0
      · exact List.length_eq_zero_iff.1 h0
      · obtain ⟨b, off, hx, -⟩ := hc h0
        cases hx
    clear hr hb ho hc h HR HB HO
    subst h0
    have hq := eqnil_none w
    go_enter Try.func95, Try.ntmps95
    go_wp2_with fail
    go_ret
    exact ⟨none, 0, rfl, World.ownsRow_nil _ _ _ _, Below.refl _ _⟩
  | some a =>
    clear hr hb ho hc h
    have hq := eqnil_some w
    go_enter Try.func95, Try.ntmps95
    go_wp2_with ((with_reducible refine wpList_sel 7 ?_); refine wpList_val rfl (r_app (.tmp 5) (.tmp 6) 25 rfl rfl rfl HR.out) ?_)
    go_ret
    exact ⟨_, _, rfl, HO.out, HB.out⟩
end Go.Proofs
namespace Go.Proofs
open Go.RowKit Go.Shelf Go.Proofs.Ct
def Mild (x : Int) : Prop := -4611686018427387903 ≤ x ∧ x ≤ 4611686018427387903
theorem Mild.fits {w : List Int} (h : ∀ x ∈ w, Mild x) : Fits w := fun x hx => by
  have := h x hx
  unfold Mild at this
  omega
theorem Mild.at_ {w : List Int} (h : ∀ x ∈ w, Mild x) (k : Nat) : Mild (w.getD k 0) := by
  rw [List.getD_eq_getElem?_getD]
  rcases Nat.lt_or_ge k w.length with hk | hk
  · rw [List.getElem?_eq_getElem hk]; exact h _ (List.getElem_mem hk)
  · rw [List.getElem?_eq_none hk]; exact ⟨by simp, by simp⟩
set_option maxRecDepth 100000 in
theorem opp134_any (w : World) (x y : Int) (hx : Mild x) (hy : Mild y) : Calls Try.prog 180 #[.int .i64 x, .int .i64 y] w fun e w' => e = .returned (.bool (opp x y)) ∧ w = w' := by
  obtain ⟨h1, h2⟩ := hx
  obtain ⟨h3, h4⟩ := hy
  have HO : Hid (opp x y = (decide (x ≠ 0) && decide (y = -x))) := Lib.hid rfl
  by_cases hx0 : x = 0
  · have d1 : (x != 0) = false := by simpa using hx0
    have HR : Hid (opp x y = false) := Lib.hid (by rw [HO.out]; simp [hx0])
    clear hx0
    go_enter Try.func180, Try.ntmps180
    go_wp2_with fail
    go_ret
    exact ⟨ret_bool HR.out.symm, rfl⟩
  · have d1 : (x != 0) = true := by simpa using hx0
    by_cases hxy : x = y
    · have d2 : (x != y) = false := by simpa using hxy
      have HR : Hid (opp x y = false) := Lib.hid (by rw [HO.out]; simp; omega)
      clear hx0 hxy
      go_enter Try.func180, Try.ntmps180
      go_wp2_with fail
      go_ret
      exact ⟨ret_bool HR.out.symm, rfl⟩
    · have d2 : (x != y) = true := by simpa using hxy
      by_cases hs : x + y = 0
      · have d3 : (x + y == 0) = true := beq_iff_eq.2 hs
        have HR : Hid (opp x y = true) := Lib.hid (by rw [HO.out]; simp; omega)
        clear hx0 hxy hs
        go_enter Try.func180, Try.ntmps180
        go_wp2_with fail
        go_ret
        exact ⟨ret_bool HR.out.symm, rfl⟩
      · have d3 : (x + y == 0) = false := beq_eq_false_iff_ne.2 hs
        have HR : Hid (opp x y = false) := Lib.hid (by rw [HO.out]; simp; omega)
        clear hx0 hxy hs
        go_enter Try.func180, Try.ntmps180
        go_wp2_with fail
        go_ret
        exact ⟨ret_bool HR.out.symm, rfl⟩
theorem owns_take {w : World} {base : Nat} {A : Option Addr} {n c : Nat} {xs : List Int} (h : w.ownsRow base 3 1 (.slice A n c) n (ints xs)) {k : Nat} (hk : k ≤ n) : w.ownsRow base 3 1 (.slice A k c) k (ints (xs.take k)) := by
  obtain ⟨hl, h2⟩ := h
  have hxl : xs.length = n := by simpa [ints] using hl
  refine ⟨by simp [ints]; omega, ?_⟩
  rcases h2 with ⟨e, h0⟩ | ⟨g, cap, cur, e, hb, hg, hnc, hcm, hcs, ht⟩
  · cases e
    obtain rfl : k = 0 := by omega
    exact .inl ⟨rfl, rfl⟩
  · cases e
    refine .inr ⟨g, c, cur, rfl, hb, hg, by omega, hcm, hcs, ?_⟩
    have : ints (xs.take k) = (ints xs).take k := by simp [ints, List.map_take]
    rw [this, ← ht, List.take_take]
    congr 1
    omega
def RedPost (x : List Int) (w : World) (e : Ending) (w' : World) : Prop := ∃ A c, e = .returned (.slice A (red x).length c) ∧ OwnI w.heap.size w' (.slice A (red x).length c) (red x) ∧ Below w.heap.size w w'
set_option maxRecDepth 100000 in
set_option maxHeartbeats 1000000 in
theorem reduce99_any (w : World) (v : Value) (x : List Int) (h : IntsAt w v x) (hm : ∀ z ∈ x, Mild z) (hl : x.length ≤ 100000) : Calls Try.prog 123 #[v] w (RedPost x w) := by
  obtain ⟨A0, c0, rfl, hc1, hc2, hc⟩ := h.open_
  have HC := Lib.hid hc
  have HM := Lib.hid hm
  clear hc h hm
  have hx0 : (0 : Int) ≤ (x.length : Int) := Int.natCast_nonneg _
  go_enter Try.func123, Try.ntmps123
  go_wp2_with fail
  go_step3
  go_wp2_with fail
  go_step3
  go_wp2_with fail
  go_loopw [3, 9] (fun so i wr => ∃ k n : Nat, i = .int .i64 k ∧ k ≤ x.length ∧ n ≤ k ∧ Hid (n = (redTo x k).length) ∧ ∃ A c, so = .slice A n c ∧ Hid (OwnI w.heap.size wr so (redTo x k) ∧ Below w.heap.size w wr)) (fun _ i _ => x.length - (intOf i).toNat)
  case atStart => exact ⟨0, 0, rfl, by omega, by omega, Lib.hid rfl, none, 0, rfl, Lib.hid ⟨World.ownsRow_nil _ _ _ _, Below.refl _ _⟩⟩
  case round =>
    obtain ⟨k, n, rfl, hk, hnk, HN, A, c, rfl, HS⟩ := hrel
    have hk0 : (0 : Int) ≤ (k : Int) := Int.natCast_nonneg _
    have hn0 : (0 : Int) ≤ (n : Int) := Int.natCast_nonneg _
    by_cases hlt : k < x.length
    · have hlt' : (k : Int) < (x.length : Int) := by omega
      obtain ⟨b, o, rfl, hcc⟩ := HC.out (by omega)
      have hck := hcc k hlt
      have hck' := (HS.out.2.cell (p := ⟨b, o + k, none⟩) (World.block_lt_of_cell? w _ hck)).trans hck
      have hmk := Mild.at_ HM.out k
      have HSTEP : Hid (redTo x (k + 1) = push (redTo x k) (x.getD k 0)) := Lib.hid rfl
      have hmst : ∀ z ∈ redTo x k, Mild z := fun z hz => HM.out z (redTo_mem hk hz)
      clear hcc hck
      generalize x.getD k 0 = z at *
      generalize redTo x k = st at *
      have hmk' : -4611686018427387903 ≤ z ∧ z ≤ 4611686018427387903 := hmk
      obtain ⟨hz1, hz2⟩ := hmk'
      have hpush := run_push (ty := 25) Try.underlying25 info3p rfl (by omega) wr w.heap.size (.slice A n c) n (ints st) (by have := HS.out.1; unfold OwnI at this; rw [← HN.out] at this; exact this) (.int .i64 z) rfl (by omega) HS.out.2.size
      by_cases hn : n = 0
      · subst hn
        have hst : st = [] := List.length_eq_zero_iff.1 HN.out.symm
        obtain ⟨A', c', w', hr, ho, hg, -⟩ := hpush
        have hsn : redTo x (k + 1) = st ++ [z] := by rw [HSTEP.out]; unfold push; rw [hst]; rfl
        have HR := Lib.hid hr
        have HS2 : Hid (OwnI w.heap.size w' (.slice A' (0 + 1) c') (redTo x (k + 1)) ∧ Below w.heap.size w w') := Lib.hid ⟨by
          unfold OwnI
          rw [hsn, List.length_append, ← HN.out, ints_app]
          exact ho, HS.out.2.grown hg HS.out.2.size (fun r hr => (owns_block HS.out.1 r hr).1)⟩
        have HN2 : Hid (0 + 1 = (redTo x (k + 1)).length) := Lib.hid (by rw [hsn, List.length_append, ← HN.out]; rfl)
        clear hr ho hg hsn hst hmst hn0
        go_wp2_with ((with_reducible refine wpList_sel 33 ?_); refine wpList_val rfl (r_app (.tmp 30) (.tmp 32) 25 rfl rfl rfl HR.out) ?_)
        go_roundw
        case rel => exact ⟨k + 1, 0 + 1, by go_num, by omega, by omega, HN2, _, _, rfl, HS2⟩
        case measure => simp [intOf]; omega
      · have d1 : decide ((n : Int) > 0) = true := by simp; omega
        have d2 : decide (0 < (n : Int)) = true := by simp; omega
        obtain ⟨m, rfl⟩ : ∃ m, n = m + 1 := ⟨n - 1, by omega⟩
        have hoI := OwnI.ints HS.out.1 (Mild.fits hmst)
        obtain ⟨A5, c5, e5, ht1, ht2, ht3⟩ := hoI.open_
        obtain ⟨rfl, -, rfl⟩ := Value.slice.inj e5
        obtain ⟨b5, o5, rfl, hoc⟩ := ht3 (by have := HN.out; omega)
        have hcm := hoc m (by have := HN.out; omega)
        have hcap : m ≤ c := by have := HN.out; omega
        have hcapI : (m : Int) ≤ (c : Int) := by omega
        have hmy := Mild.at_ hmst m
        have HP : Hid (push st z = if opp (st.getD m 0) z then st.take m else st ++ [z]) := Lib.hid (by
          unfold push
          rw [← HN.out, decide_eq_true (by omega : 0 < m + 1)]
          simp)
        clear hoI e5 ht3 hoc
        generalize st.getD m 0 = y at *
        have hmy' : -4611686018427387903 ≤ y ∧ y ≤ 4611686018427387903 := hmy
        obtain ⟨hy1, hy2⟩ := hmy'
        have hm0 : (0 : Int) ≤ (m : Int) := Int.natCast_nonneg _
        cases hop : opp y z with
        | true =>
          have hsn : redTo x (k + 1) = st.take m := by rw [HSTEP.out, HP.out, hop]; rfl
          have HS2 : Hid (OwnI w.heap.size wr (.slice (some ⟨b5, o5, none⟩) m c) (redTo x (k + 1)) ∧ Below w.heap.size w wr) := Lib.hid ⟨by
            have h1 := HS.out.1
            unfold OwnI at h1 ⊢
            rw [← HN.out] at h1
            have h2 := owns_take h1 (Nat.le_succ m)
            have h3 : (st.take m).length = m := by rw [List.length_take, ← HN.out]; omega
            rw [hsn, h3]
            exact h2, HS.out.2⟩
          have HN2 : Hid (m = (redTo x (k + 1)).length) := Lib.hid (by rw [hsn, List.length_take, ← HN.out]; omega)
          have HCALL := Lib.hid (opp134_any wr y z hmy hmk)
          rw [hop] at HCALL
          clear hsn hmst hop hpush hmy hmk
          go_wp2_with (go_at_call 180; (refine HCALL.out.mono ?_); rintro e w' ⟨rfl, rfl⟩)
          go_roundw
          case rel => exact ⟨k + 1, m, by go_num, by omega, by omega, HN2, _, _, rfl, HS2⟩
          case measure => simp [intOf]; omega
        | false =>
          obtain ⟨A', c', w', hr, ho, hg, -⟩ := hpush
          have hsn : redTo x (k + 1) = st ++ [z] := by rw [HSTEP.out, HP.out, hop]; rfl
          have HR := Lib.hid hr
          have HS2 : Hid (OwnI w.heap.size w' (.slice A' (m + 1 + 1) c') (redTo x (k + 1)) ∧ Below w.heap.size w w') := Lib.hid ⟨by
            unfold OwnI
            rw [hsn, List.length_append, ← HN.out, ints_app]
            exact ho, HS.out.2.grown hg HS.out.2.size (fun r hr => (owns_block HS.out.1 r hr).1)⟩
          have HN2 : Hid (m + 1 + 1 = (redTo x (k + 1)).length) := Lib.hid (by rw [hsn, List.length_append, ← HN.out]; rfl)
          have HCALL := Lib.hid (opp134_any wr y z hmy hmk)
          rw [hop] at HCALL
          clear hr ho hg hsn hmst hop hmy hmk
          go_wp2_with (first
            | (go_at_call 180; (refine HCALL.out.mono ?_); rintro e w' ⟨rfl, rfl⟩)
            | ((with_reducible refine wpList_sel 33 ?_); refine wpList_val rfl (r_app (.tmp 30) (.tmp 32) 25 rfl rfl rfl HR.out) ?_))
          go_roundw
          case rel => exact ⟨k + 1, m + 1 + 1, by go_num, by omega, by omega, HN2, _, _, rfl, HS2⟩
          case measure => simp [intOf]; omega
    · obtain rfl : k = x.length := by omega
      have HZ : Hid (redTo x x.length = red x) := Lib.hid rfl
      rw [HZ.out] at HN HS
      go_wp2_with fail
      rw [Exit.noGoto_ret]
      go_ret
      exact ⟨A, c, by rw [← HN.out]; rfl, by rw [← HN.out]; exact HS.out.1, HS.out.2⟩
end Go.Proofs
