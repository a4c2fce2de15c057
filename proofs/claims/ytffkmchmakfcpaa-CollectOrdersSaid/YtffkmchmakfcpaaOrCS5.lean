/- The state of coset.Standard: the map of numbers, the order, the rows; its steps, as equations on runs; Rows of the call's own that grow; a list of numbers in one block; cayleyref18.Complete; coset.Standard; cayleyref18.Standard. -/
import Derived.Test.YtffkmchmakfcpaaOrCS4
import Derived.Test.YtffkmchmakfcpaaOrCS1
import Derived.Test.YtffkmchmakfcpaaOrCS2
namespace Go.Proofs.B18
open Go.RowKit Go.Shelf Go.Proofs.Ct Go.Maps
def I64 (x : Int) : Prop := -9223372036854775808 ≤ x ∧ x ≤ 9223372036854775807
/-- block b is a map from the numbers of l to their places -/
def MapI (w : World) (b : Nat) (l : List Int) : Prop :=
  ∃ n D, n ≤ l.length ∧ w.ownsMap (H := Unit) Try.prog 3 (plainElem Try.prog 3) b n D ∧
    ∀ s, I64 s → Maps.has D (.int .i64 s) = l.contains s ∧ (s ∈ l → D.atKey (.int .i64 s) (.lit (.int .i64 0)) = .lit (.int .i64 (numOf l s)))
theorem zero3 (w : World) : (zeroValue 3).run Try.prog w = .ok (.int .i64 0) w := by kernel_rfl
theorem key3 {s : Int} (h : I64 s) : keyOf Try.prog 3 (.int .i64 s) = some (.int .i64 s) := keyOf_int_mk Try.underlying3 (WalkArith.wf_i64 h)
theorem MapI.made (w : World) : MapI (w.alloc (.map #[] 0)) w.heap.size [] :=
  ⟨0, .map [], Nat.le_refl _, World.ownsMap_made _ _ _ _, fun s _ => ⟨by simp [Maps.has], fun h => by cases h⟩⟩
theorem MapI.kept {w w' : World} {b : Nat} {l : List Int} {row : Option Nat} (h : MapI w b l) (hg : w.grownBy w' row) (hne : row ≠ some b) : MapI w' b l := by
  obtain ⟨n, D, h1, h2, h3⟩ := h
  exact ⟨n, D, h1, h2.kept hg (Ne.symm hne), h3⟩
theorem MapI.lt {w : World} {b : Nat} {l : List Int} (h : MapI w b l) : b < w.heap.size := by
  obtain ⟨n, D, h1, h2, h3⟩ := h
  exact h2.lt
theorem MapI.isMapObj {w : World} {b : Nat} {l : List Int} (h : MapI w b l) : ∃ es clock, w.heap[b]? = some (.map es clock) := by
  obtain ⟨n, D, h1, ⟨es, clock, hb, -⟩, h3⟩ := h
  exact ⟨es, clock, hb⟩
theorem MapI.look_ok {w : World} {b : Nat} {l : List Int} (h : MapI w b l) {s : Int} (hs : I64 s) : ∃ c : Int, (Instr.lookup 149 (.map (some b)) (.int .i64 s) true).run Try.prog w = .ok (.tuple #[.int .i64 c, .bool (l.contains s)]) w := by
  obtain ⟨n, D, h1, h2, h3⟩ := h
  obtain ⟨v, ps, hr, hv⟩ := h2.look_ok (int_keyed Try.underlying3) Try.underlying149 (zero3 w) (plainElem_int Try.underlying3 (by decide)) (key3 hs)
  obtain ⟨c, rfl, hc, hwc⟩ := plainElem_int_inv Try.underlying3 hv
  rw [(h3 s hs).1] at hr
  exact ⟨c, hr⟩
theorem MapI.look {w : World} {b : Nat} {l : List Int} (h : MapI w b l) {s : Int} (hs : I64 s) (hm : s ∈ l) : (Instr.lookup 149 (.map (some b)) (.int .i64 s) false).run Try.prog w = .ok (.int .i64 (numOf l s)) w := by
  obtain ⟨n, D, h1, h2, h3⟩ := h
  obtain ⟨c, hr, hat, -⟩ := h2.lookup_int (int_keyed Try.underlying3) Try.underlying149 Try.underlying3 (zero3 w) (key3 hs)
  rw [(h3 s hs).2 hm] at hat
  have : numOf l s = c := by simpa using hat
  rw [this]
  exact hr
theorem MapI.put {w : World} {b : Nat} {l : List Int} (h : MapI w b l) {s : Int} (hs : I64 s) (hl : l.length ≤ 100000) (hn : s ∉ l) :
    ∃ w', (Instr.mapUpdate 149 (.map (some b)) (.int .i64 s) (.int .i64 (l.length : Int))).run Try.prog w = .ok () w' ∧ MapI w' b (l ++ [s]) ∧ w.grownBy w' (some b) := by
  obtain ⟨n, D, h1, h2, h3⟩ := h
  obtain ⟨w', hr, ho, hg⟩ := h2.update (val := .int .i64 (l.length : Int)) (int_keyed Try.underlying3) Try.underlying149 (by unfold maxLen; omega) (key3 hs) (plainElem_int Try.underlying3 (WalkArith.wf_i64 (by omega)))
  refine ⟨w', hr, ⟨n + 1, _, by simp; omega, ho, fun x hx => ?_⟩, hg⟩
  by_cases e : x = s
  · subst e
    have hkl : WideAt.IsKeyLit (Lit.int .i64 x) := by simp [WideAt.IsKeyLit]
    rw [Maps.has_put_same h2.isMap hkl]
    refine ⟨by simp, fun _ => ?_⟩
    rw [Maps.atKey_put_same h2.isMap hkl]
    rw [numOf_new hn (List.prefix_refl _)]
  · have hne : (Lit.int .i64 x) ≠ (Lit.int .i64 s) := fun h => e (by simpa using h)
    rw [Maps.has_put_other hne, (h3 x hx).1]
    refine ⟨by simp [e], fun hm => ?_⟩
    have hm' : x ∈ l := by
      rcases List.mem_append.1 hm with h | h
      · exact h
      · exact absurd (by simpa using h) e
    rw [Maps.atKey_put_other hne, (h3 x hx).2 hm', idxOf_pre (List.prefix_append _ _) hm']
section
variable {o : Oper} {a : Act} {w w' : World} {ops : Array Oper} {rest : List Oper} {Q : Exit → Act → World → Prop}
theorem wpList_selMu (T : TypeId) (x y z : Nat) {t : TypeId} {p : String} {af : Array Edge} {g : Option (Nat × Bool)} (h : wpList Try.prog ops Q (⟨none, .mapUpdate T (.tmp x) (.tmp y) (.tmp z), t, p, af, g⟩ :: rest) a w) : wpList Try.prog ops Q (⟨none, .mapUpdate T (.tmp x) (.tmp y) (.tmp z), t, p, af, g⟩ :: rest) a w := h
theorem wpList_selIns (T : TypeId) (x y : Nat) (z : Value) {t : TypeId} {p : String} {af : Array Edge} {g : Option (Nat × Bool)} (h : wpList Try.prog ops Q (⟨none, .insert T (.tmp x) (.tmp y) (.const z), t, p, af, g⟩ :: rest) a w) : wpList Try.prog ops Q (⟨none, .insert T (.tmp x) (.tmp y) (.const z), t, p, af, g⟩ :: rest) a w := h
theorem r_mu {mv kv xv : Value} (T : TypeId) (m k x : Operand) (ho : o.op = .mapUpdate T m k x) (hm : a.eval m = mv) (hk : a.eval k = kv) (hx : a.eval x = xv) (hr : (Instr.mapUpdate T mv kv xv).run Try.prog w = .ok () w') : (execOp a.eval o).run Try.prog w = .ok .skip w' := by
  unfold execOp
  simp only [ho, hm, hk, hx, Sem.run_bind, hr, Result.andThen_ok]
  rfl
theorem r_ins {mv kv xv : Value} (T : TypeId) (m k x : Operand) (ho : o.op = .insert T m k x) (hm : a.eval m = mv) (hk : a.eval k = kv) (hx : a.eval x = xv) (hr : (Instr.mapUpdate T mv kv xv).run Try.prog w = .ok () w') : (execOp a.eval o).run Try.prog w = .ok .skip w' := by
  unfold execOp
  simp only [ho, hm, hk, hx, Sem.run_bind, hr, Result.andThen_ok]
  rfl
theorem r_look {mv kv v : Value} {c : Bool} (T : TypeId) (m k : Operand) (ho : o.op = .lookup T m k c) (hm : a.eval m = mv) (hk : a.eval k = kv) (hr : (Instr.lookup T mv kv c).run Try.prog w = .ok v w') : (execOp a.eval o).run Try.prog w = .ok (.value v) w' := by
  unfold execOp
  simp only [ho, hm, hk, Sem.run_bind, hr, Result.andThen_ok]
  rfl
theorem r_make {lv cv v : Value} (T : TypeId) (l c : Operand) (ho : o.op = .makeSlice T l c) (hl : a.eval l = lv) (hc : a.eval c = cv) (hr : (Instr.makeSlice T lv cv).run Try.prog w = .ok v w') : (execOp a.eval o).run Try.prog w = .ok (.value v) w' := by
  unfold execOp
  simp only [ho, hl, hc, Sem.run_bind, hr, Result.andThen_ok]
  rfl
end
/-- numbers, order and rows in memory -/
structure StdSt (bm : Nat) (F : Nat → Prop) (w0 wr : World) (vo vout : Value) (o : List Int) (rows : Tb) : Prop where
  below : Below w0.heap.size w0 wr
  bm0 : w0.heap.size ≤ bm
  map : MapI wr bm o
  ord : OwnI w0.heap.size wr vo o
  out : OwnT 22 w0.heap.size F wr vout rows
  fs : ∀ k, F k → w0.heap.size ≤ k ∧ k < wr.heap.size ∧ vo.ownBlock ≠ some k ∧ ∃ C, wr.heap[k]? = some (.cells C 3 (0, 0))
/-- .. and a row in the making -/
structure StdSt2 (bm : Nat) (F : Nat → Prop) (w0 wr : World) (vo vout vr : Value) (o : List Int) (rows : Tb) (x : List Int) : Prop where
  st : StdSt bm F w0 wr vo vout o rows
  row : OwnI w0.heap.size wr vr x
  ap : ∀ r, vr.ownBlock = some r → vo.ownBlock ≠ some r ∧ ¬ F r
theorem grown_cells {w w' : World} {row : Option Nat} (hg : w.grownBy w' row) {k : Nat} {ob : Obj} (h : w.heap[k]? = some ob) (hne : row ≠ some k) : w'.heap[k]? = some ob :=
  (hg.block k (Array.getElem?_eq_some_iff.1 h).1 (Ne.symm hne)).trans h
theorem OwnT.block {e : TypeId} {base : Nat} {F : Nat → Prop} {w : World} {v : Value} {xs : List (List Int)} (h : OwnT e base F w v xs) : ∀ r, v.ownBlock = some r → base ≤ r ∧ ∃ C, w.heap[r]? = some (.cells C e (0, 0)) := let ⟨_, h1, _⟩ := h; owns_block h1
/-- a block of the call's own, other than those of the order, the rows and the map, is written -/
theorem StdSt.grown {bm : Nat} {F : Nat → Prop} {w0 wr w' : World} {vo vout : Value} {o : List Int} {rows : Tb} {row : Option Nat} (h : StdSt bm F w0 wr vo vout o rows) (hg : wr.grownBy w' row)
    (h0 : ∀ r, row = some r → w0.heap.size ≤ r ∧ vo.ownBlock ≠ some r ∧ ¬ F r ∧ vout.ownBlock ≠ some r ∧ r ≠ bm) : StdSt bm F w0 w' vo vout o rows := by
  have hob := owns_block h.ord
  have hub := h.out.block
  refine ⟨h.below.grown hg h.below.size (fun k hk => (h0 k hk).1), h.bm0, h.map.kept hg (fun e => (h0 _ e).2.2.2.2 rfl), owns_keep h.ord fun r hr => ?_, h.out.keep (fun r hr => ?_) (Ag.grown hg fun k hk => ⟨(h.fs k hk).2.1, fun e => (h0 _ e).2.2.1 hk⟩) (fun _ h => h), fun k hk => ?_⟩
  · exact hg.block r (owns_lt h.ord hr) (fun e => (h0 r e.symm).2.1 hr)
  · obtain ⟨-, C, hC⟩ := hub r hr
    exact hg.block r (Array.getElem?_eq_some_iff.1 hC).1 (fun e => (h0 r e.symm).2.2.2.1 hr)
  · obtain ⟨h1, h2, h3, C, hC⟩ := h.fs k hk
    exact ⟨h1, Nat.lt_of_lt_of_le h2 hg.size, h3, C, grown_cells hg hC (fun e => (h0 _ e).2.2.1 hk)⟩
/-- a row begins -/
theorem StdSt.start {bm : Nat} {F : Nat → Prop} {w0 wr : World} {vo vout : Value} {o : List Int} {rows : Tb} (h : StdSt bm F w0 wr vo vout o rows) (g : Nat) (hg16 : g ≤ 16) :
    ∃ A c w', (Instr.makeSlice 22 (.int .i64 0) (.int .i64 (2 * (g : Int)))).run Try.prog wr = .ok (.slice A 0 c) w' ∧ StdSt2 bm F w0 w' vo vout (.slice A 0 c) o rows [] := by
  obtain ⟨i, hi, hz, hs, hb⟩ := info3p
  obtain ⟨w', hr, ho, hg⟩ := run_make_own (P := Try.prog) wr w0.heap.size 22 3 i (.int .i64 0) 1 Try.underlying22 hi hz hs .i64 .i64 (2 * g) (by rw [hb]; omega) (by unfold maxLen; omega) h.below.size
  have hr' : (Instr.makeSlice 22 (.int .i64 0) (.int .i64 (2 * (g : Int)))).run Try.prog wr = .ok (.slice (some ⟨wr.heap.size, 0, none⟩) 0 (2 * g)) w' := by
    rw [show (2 * (g : Int)) = ((2 * g : Nat) : Int) by omega]
    exact hr
  refine ⟨_, _, w', hr', h.grown hg (fun r hr => by cases hr), ho, fun r hr => ?_⟩
  have hr2 : wr.heap.size = r := Option.some.inj hr
  subst hr2
  refine ⟨fun e => ?_, fun e => ?_⟩
  · exact absurd (owns_lt h.ord e) (Nat.lt_irrefl _)
  · exact absurd (h.fs _ e).2.1 (Nat.lt_irrefl _)
/-- a number is laid behind the row -/
theorem StdSt2.add {bm : Nat} {F : Nat → Prop} {w0 wr : World} {vo vout vr : Value} {o : List Int} {rows : Tb} {x : List Int} (h : StdSt2 bm F w0 wr vo vout vr o rows x) (z : Int) (hx : x.length ≤ 100000) :
    ∃ A' c' w', (Builtin.append_ #[22, 22] 22 #[vr, .slice (some ⟨wr.heap.size, 0, none⟩) 1 1]).run Try.prog (wr.alloc (.cells #[.int .i64 z] 3)) = .ok (.slice A' (x.length + 1) c') w' ∧ StdSt2 bm F w0 w' vo vout (.slice A' (x.length + 1) c') o rows (x ++ [z]) := by
  obtain ⟨A', c', w', hr, ho, hg, hw⟩ := push_int 22 22 Try.underlying22 wr w0.heap.size vr x h.row z (by omega) h.st.below.size
  have hrb := owns_block h.row
  have hst : StdSt bm F w0 w' vo vout o rows := h.st.grown hg fun r hr => by
    obtain ⟨h1, C, hC⟩ := hrb r hr
    refine ⟨h1, (h.ap r hr).1, (h.ap r hr).2, fun e => ?_, fun e => ?_⟩
    · obtain ⟨-, C', hC'⟩ := h.st.out.block r e
      rw [hC] at hC'; cases hC'
    · subst e
      obtain ⟨es, cl, hm⟩ := h.st.map.isMapObj
      rw [hC] at hm; cases hm
  refine ⟨A', c', w', hr, hst, ho, fun r hr => ?_⟩
  rcases hw with hw | ⟨r', hr', hge⟩
  · rw [hw] at hr
    exact h.ap r hr
  · have e : r' = r := by rw [hr'] at hr; exact Option.some.inj hr
    subst e
    exact ⟨fun e => absurd (owns_lt h.st.ord e) (by omega), fun e => absurd (h.st.fs _ e).2.1 (by omega)⟩
/-- a new coset gets its number -/
theorem StdSt2.visit {bm : Nat} {F : Nat → Prop} {w0 wr : World} {vo vout vr : Value} {o : List Int} {rows : Tb} {x : List Int} (h : StdSt2 bm F w0 wr vo vout vr o rows x) {s : Int} (hs : I64 s) (hn : s ∉ o) (ho : o.length ≤ 100000) :
    ∃ wm A' c' w', (Instr.mapUpdate 149 (.map (some bm)) (.int .i64 s) (.int .i64 (o.length : Int))).run Try.prog wr = .ok () wm ∧
      (Builtin.append_ #[22, 22] 22 #[vo, .slice (some ⟨wm.heap.size, 0, none⟩) 1 1]).run Try.prog (wm.alloc (.cells #[.int .i64 s] 3)) = .ok (.slice A' (o.length + 1) c') w' ∧
      StdSt2 bm F w0 w' (.slice A' (o.length + 1) c') vout vr (o ++ [s]) rows x := by
  obtain ⟨wm, hrm, hmm, hgm⟩ := h.st.map.put hs ho hn
  obtain ⟨es, cl, hmo⟩ := h.st.map.isMapObj
  have hne : ∀ {k : Nat} {C : Array Value} {e : TypeId} {fr : Nat × Nat}, wr.heap[k]? = some (.cells C e fr) → (some bm : Option Nat) ≠ some k := fun {k C e fr} hc e' => by
    have : bm = k := Option.some.inj e'
    subst this
    rw [hmo] at hc; cases hc
  have hob := owns_block h.st.ord
  have hrb := owns_block h.row
  have hub := h.st.out.block
  have horm : OwnI w0.heap.size wm vo o := owns_keep h.st.ord fun r hr => by
    obtain ⟨-, C, hC⟩ := hob r hr
    exact (grown_cells hgm hC (hne hC)).trans hC.symm
  have hbm : Below w0.heap.size w0 wm := h.st.below.grown hgm h.st.below.size (fun k hk => by cases hk; exact h.st.bm0)
  obtain ⟨A', c', w', hr, ho', hg, hw⟩ := push_int 22 22 Try.underlying22 wm w0.heap.size vo o horm s (by omega) hbm.size
  have hgo : ∀ {k : Nat}, vo.ownBlock = some k → k ≠ bm := fun {k} hk e => by
    subst e
    obtain ⟨-, C, hC⟩ := hob _ hk
    rw [hmo] at hC; cases hC
  refine ⟨wm, A', c', w', hrm, hr, ⟨hbm.grown hg hbm.size (fun k hk => (hob k hk).1), h.st.bm0, hmm.kept hg (fun e => hgo e rfl), ho', ?_, fun k hk => ?_⟩, ?_, fun r hr => ?_⟩
  · refine h.st.out.keep (fun r hr => ?_) (fun k hk => ?_) (fun _ h => h)
    · obtain ⟨-, C, hC⟩ := hub r hr
      have h1 := grown_cells hgm hC (hne hC)
      refine (grown_cells hg h1 (fun e => ?_)).trans hC.symm
      obtain ⟨-, C', hC'⟩ := hob r e
      rw [hC] at hC'; cases hC'
    · obtain ⟨h1, h2, h3, C, hC⟩ := h.st.fs k hk
      exact (grown_cells hg (grown_cells hgm hC (hne hC)) (fun e => h3 e)).trans hC.symm
  · obtain ⟨h1, h2, h3, C, hC⟩ := h.st.fs k hk
    refine ⟨h1, Nat.lt_of_lt_of_le h2 (Nat.le_trans hgm.size hg.size), fun e => ?_, C, grown_cells hg (grown_cells hgm hC (hne hC)) (fun e => h3 e)⟩
    rcases hw with hw | ⟨r', hr', hge⟩
    · exact h3 (hw.symm.trans e)
    · rw [hr'] at e
      have : r' = k := Option.some.inj e
      have := hgm.size
      omega
  · exact owns_keep h.row fun r hr => by
      obtain ⟨-, C, hC⟩ := hrb r hr
      exact (grown_cells hg (grown_cells hgm hC (hne hC)) (fun e => (h.ap r hr).1 e)).trans hC.symm
  · refine ⟨fun e => ?_, (h.ap r hr).2⟩
    rcases hw with hw | ⟨r', hr', hge⟩
    · exact (h.ap r hr).1 (hw.symm.trans e)
    · rw [hr'] at e
      have : r' = r := Option.some.inj e
      have := owns_lt h.row hr
      have := hgm.size
      omega
/-- the row is laid behind the rows -/
theorem StdSt2.done {bm : Nat} {F : Nat → Prop} {w0 wr : World} {vo vout : Value} {A : Option Addr} {c : Nat} {o : List Int} {rows : Tb} {x : List Int} (h : StdSt2 bm F w0 wr vo vout (.slice A x.length c) o rows x) (hf : Fits x) (hl : rows.length ≤ 100000) :
    ∃ A' c' w', (Builtin.append_ #[74, 74] 74 #[vout, .slice (some ⟨wr.heap.size, 0, none⟩) 1 1]).run Try.prog (wr.alloc (.cells #[.slice A x.length c] 22)) = .ok (.slice A' (rows.length + 1) c') w' ∧
      StdSt bm (fun k => F k ∨ (Value.slice A x.length c).ownBlock = some k) w0 w' vo (.slice A' (rows.length + 1) c') o (rows ++ [x]) := by
  have hub := h.st.out.block
  have hrb := owns_block h.row
  have hob := owns_block h.st.ord
  have hF2 : ∀ k, (F k ∨ (Value.slice A x.length c).ownBlock = some k) → k < wr.heap.size ∧ vout.ownBlock ≠ some k := fun k hk => by
    rcases hk with hk | hk
    · obtain ⟨h1, h2, h3, C, hC⟩ := h.st.fs k hk
      refine ⟨h2, fun e => ?_⟩
      obtain ⟨-, C', hC'⟩ := hub k e
      rw [hC] at hC'; cases hC'
    · obtain ⟨h1, C, hC⟩ := hrb k hk
      refine ⟨(Array.getElem?_eq_some_iff.1 hC).1, fun e => ?_⟩
      obtain ⟨-, C', hC'⟩ := hub k e
      rw [hC] at hC'; cases hC'
  obtain ⟨A', c', w', hr, ho', hg, hw⟩ := push_row (ty := 74) Try.underlying74 info24p wr w0.heap.size (fun k => F k ∨ (Value.slice A x.length c).ownBlock = some k) vout rows (h.st.out.keep (fun _ _ => rfl) (Ag.refl _ _) (fun k hk => .inl hk)) A x.length c x ((IntsF.of_own h.row hf).mono fun k hk => .inr hk) hF2 (by omega) h.st.below.size
  have hne : ∀ {k : Nat} {C : Array Value} {fr : Nat × Nat}, wr.heap[k]? = some (.cells C 3 fr) → vout.ownBlock ≠ some k := fun {k C fr} hc e => by
    obtain ⟨-, C', hC'⟩ := hub k e
    rw [hc] at hC'; cases hC'
  refine ⟨A', c', w', hr, ⟨h.st.below.grown hg h.st.below.size (fun k hk => (hub k hk).1), h.st.bm0, h.st.map.kept hg (fun e => ?_), owns_keep h.st.ord fun r hr => ?_, ho', fun k hk => ?_⟩⟩
  · obtain ⟨es, cl, hm⟩ := h.st.map.isMapObj
    obtain ⟨-, C', hC'⟩ := hub bm e
    rw [hm] at hC'; cases hC'
  · obtain ⟨-, C, hC⟩ := hob r hr
    exact (grown_cells hg hC (hne hC)).trans hC.symm
  · have h2 := (hF2 k hk).1
    rcases hk with hk | hk
    · obtain ⟨h1, _, h3, C, hC⟩ := h.st.fs k hk
      exact ⟨h1, Nat.lt_of_lt_of_le h2 hg.size, h3, C, grown_cells hg hC (hne hC)⟩
    · obtain ⟨h1, C, hC⟩ := hrb k hk
      exact ⟨h1, Nat.lt_of_lt_of_le h2 hg.size, (h.ap k hk).1, C, grown_cells hg hC (hne hC)⟩
end Go.Proofs.B18
namespace Go.Proofs.B18
open Go.RowKit Go.Shelf Go.Proofs.Ct
/-- block b holds the numbers x (and may be longer) -/
def XsAt (w : World) (b : Nat) (x : List Int) : Prop := ∃ C : Array Value, w.heap[b]? = some (.cells C 3 (0, 0)) ∧ x.length ≤ C.size ∧ ∀ k, k < x.length → C[k]? = some (.int .i64 (x.getD k 0))
theorem getD_set {α : Type} {d : α} (l : List α) (k j : Nat) (v : α) : (l.set k v).getD j d = if k = j ∧ k < l.length then v else l.getD j d := by
  rw [List.getD_eq_getElem?_getD, List.getElem?_set, List.getD_eq_getElem?_getD]
  by_cases h : k = j
  · subst h
    by_cases h2 : k < l.length <;> simp [h2]
  · simp [h]
section
variable {w w' : World} {b k : Nat} {x y : List Int}
theorem XsAt.lt (h : XsAt w b x) : b < w.heap.size := by obtain ⟨C, hC, -⟩ := h; exact (Array.getElem?_eq_some_iff.1 hC).1
theorem XsAt.keep (h : XsAt w b x) (hk : w'.heap[b]? = w.heap[b]?) : XsAt w' b x := by
  obtain ⟨C, hC, h2, h3⟩ := h
  exact ⟨C, hk.trans hC, h2, h3⟩
theorem XsAt.below (h : XsAt w b x) (hb : Below w.heap.size w w') : XsAt w' b x := h.keep (hb.block _ h.lt)
theorem XsAt.grown {row : Option Nat} (h : XsAt w b x) (hg : w.grownBy w' row) (hr : row ≠ some b) : XsAt w' b x := h.keep (hg.block _ h.lt (Ne.symm hr))
theorem XsAt.cell (h : XsAt w b x) (hk : k < x.length) : w.cell? ⟨b, k, none⟩ = some (.int .i64 (x.getD k 0)) := by
  obtain ⟨C, hC, -, h3⟩ := h
  rw [cell_of_row _ _ _ _ _ _ hC]; exact h3 k hk
theorem XsAt.frozen (h : XsAt w b x) (k : Nat) : w.frozen? ⟨b, k, none⟩ = false := by
  obtain ⟨C, hC, -⟩ := h
  simp [World.frozen?, hC]
theorem XsAt.set (h : XsAt w b x) (hk : k < x.length) (v : Int) : XsAt (w.setCell ⟨b, k, none⟩ (.int .i64 v)) b (x.set k v) := by
  obtain ⟨C, hC, h2, h3⟩ := h
  refine ⟨C.setIfInBounds k (.int .i64 v), by simp [World.setCell, Array.getElem?_modify, hC], by simpa using h2, fun j hj => ?_⟩
  have hj' : j < x.length := by simpa using hj
  rw [getD_set]
  by_cases e : k = j
  · subst e
    rw [if_pos ⟨rfl, hk⟩]
    have : k < C.size := by omega
    simp [this]
  · rw [if_neg (fun hh => e hh.1), Array.getElem?_setIfInBounds_ne e]
    exact h3 j hj'
theorem XsAt.ints (h : XsAt w b x) {n cap : Nat} (hn : x.length = n) (hc : n ≤ cap) (hm : cap ≤ 9223372036854775807) (hf : Fits x) : IntsAt w (.slice (some ⟨b, 0, none⟩) n cap) x := by
  refine ⟨⟨_, n, cap, rfl, by simp [_root_.Go.Proofs.B18.ints, hn], hc, by simpa [maxLen] using hm, fun _ => ⟨b, 0, rfl, fun j v hv => ?_⟩⟩, hf⟩
  have hj : j < x.length := by have := (List.getElem?_eq_some_iff.1 hv).1; simpa [_root_.Go.Proofs.B18.ints] using this
  rw [Nat.zero_add, h.cell hj, ← hv]
  simp [_root_.Go.Proofs.B18.ints, hj, List.getD_eq_getElem?_getD]
theorem grown_setCell (w : World) (b k : Nat) (v : Value) : w.grownBy (w.setCell ⟨b, k, none⟩ v) (some b) :=
  ⟨rfl, rfl, rfl, by simp [World.setCell], fun i _ hne => Below.heap_setCell w ⟨b, k, none⟩ v i (fun e => hne (by rw [e]))⟩
end
/-- rows of the call's own, in type t with elements of type e -/
structure OutSt (e : TypeId) (F : Nat → Prop) (w0 wr : World) (vout : Value) (rows : List (List Int)) : Prop where
  below : Below w0.heap.size w0 wr
  out : OwnT e w0.heap.size F wr vout rows
  fs : ∀ k, F k → w0.heap.size ≤ k ∧ k < wr.heap.size ∧ ∃ C, wr.heap[k]? = some (.cells C 3 (0, 0))
structure OutSt2 (e : TypeId) (F : Nat → Prop) (w0 wr : World) (vout vr : Value) (rows : List (List Int)) (x : List Int) : Prop where
  st : OutSt e F w0 wr vout rows
  row : OwnI w0.heap.size wr vr x
  ap : ∀ r, vr.ownBlock = some r → ¬ F r
theorem OutSt.nil (e : TypeId) {w0 wr : World} (h : Below w0.heap.size w0 wr) : OutSt e (fun _ => False) w0 wr (.slice none 0 0) [] :=
  ⟨h, ⟨[], World.ownsRow_nil _ _ _ _, RowsF.nil _ _⟩, fun _k hk => hk.elim⟩
theorem OutSt.grown {e : TypeId} {F : Nat → Prop} {w0 wr w' : World} {vout : Value} {rows : List (List Int)} {row : Option Nat} (h : OutSt e F w0 wr vout rows) (hg : wr.grownBy w' row)
    (h0 : ∀ r, row = some r → w0.heap.size ≤ r ∧ ¬ F r ∧ vout.ownBlock ≠ some r) : OutSt e F w0 w' vout rows := by
  have hub := h.out.block
  refine ⟨h.below.grown hg h.below.size (fun k hk => (h0 k hk).1), h.out.keep (fun r hr => ?_) (Ag.grown hg fun k hk => ⟨(h.fs k hk).2.1, fun e => (h0 _ e).2.1 hk⟩) (fun _ h => h), fun k hk => ?_⟩
  · obtain ⟨-, C, hC⟩ := hub r hr
    exact hg.block r (Array.getElem?_eq_some_iff.1 hC).1 (fun e => (h0 r e.symm).2.2 hr)
  · obtain ⟨h1, h2, C, hC⟩ := h.fs k hk
    exact ⟨h1, Nat.lt_of_lt_of_le h2 hg.size, C, grown_cells hg hC (fun e => (h0 _ e).2.1 hk)⟩
theorem OutSt.below' {e : TypeId} {F : Nat → Prop} {w0 wr w' : World} {vout : Value} {rows : List (List Int)} (h : OutSt e F w0 wr vout rows) (hb : Below wr.heap.size wr w') : OutSt e F w0 w' vout rows :=
  h.grown (row := none) ⟨hb.os, hb.tape, hb.output, hb.size, fun k hk _ => hb.block k hk⟩ (fun r hr => by cases hr)
theorem OutSt2.below' {e : TypeId} {F : Nat → Prop} {w0 wr w' : World} {vout vr : Value} {rows : List (List Int)} {x : List Int} (h : OutSt2 e F w0 wr vout vr rows x) (hb : Below wr.heap.size wr w') : OutSt2 e F w0 w' vout vr rows x :=
  ⟨h.st.below' hb, owns_below h.row hb, h.ap⟩
/-- a row that another call laid joins -/
theorem OutSt.with_row {e : TypeId} {F : Nat → Prop} {w0 wr w' : World} {vout vr : Value} {rows : List (List Int)} {x : List Int} (h : OutSt e F w0 wr vout rows) (hb : Below wr.heap.size wr w') (hr : OwnI wr.heap.size w' vr x) : OutSt2 e F w0 w' vout vr rows x :=
  ⟨h.below' hb, owns_base hr h.below.size, fun r hr' hF => by
    have h1 := (owns_block hr r hr').1
    have h2 := (h.fs r hF).2.1
    omega⟩
theorem OutSt2.add {e : TypeId} (he : e ≠ 3) (t : TypeId) (ht : Try.prog.underlying t = some (.slice 3)) {F : Nat → Prop} {w0 wr : World} {vout vr : Value} {rows : List (List Int)} {x : List Int} (h : OutSt2 e F w0 wr vout vr rows x) (z : Int) (hx : x.length ≤ 1000000) :
    ∃ A' c' w', (Builtin.append_ #[t, t] t #[vr, .slice (some ⟨wr.heap.size, 0, none⟩) 1 1]).run Try.prog (wr.alloc (.cells #[.int .i64 z] 3)) = .ok (.slice A' (x.length + 1) c') w' ∧ OutSt2 e F w0 w' vout (.slice A' (x.length + 1) c') rows (x ++ [z]) := by
  obtain ⟨A', c', w', hr, ho, hg, hw⟩ := push_int t t ht wr w0.heap.size vr x h.row z (by omega) h.st.below.size
  have hrb := owns_block h.row
  have hst : OutSt e F w0 w' vout rows := h.st.grown hg fun r hr => by
    obtain ⟨h1, C, hC⟩ := hrb r hr
    refine ⟨h1, h.ap r hr, fun e' => ?_⟩
    obtain ⟨-, C', hC'⟩ := h.st.out.block r e'
    rw [hC] at hC'
    injection hC' with h5
    injection h5 with _ h6 _
    exact he h6.symm
  refine ⟨A', c', w', hr, hst, ho, fun r hr => ?_⟩
  rcases hw with hw | ⟨r', hr', hge⟩
  · rw [hw] at hr
    exact h.ap r hr
  · have e : r' = r := by rw [hr'] at hr; exact Option.some.inj hr
    subst e
    exact fun e => absurd (h.st.fs _ e).2.1 (by omega)
theorem OutSt2.done {t e : TypeId} (he : e ≠ 3) (ht : Try.prog.underlying t = some (.slice e)) (hi : ∃ i, Try.prog.info? e = some i ∧ i.zero = some (.slice none 0 0) ∧ i.size = 1 ∧ i.bytes = 24) {F : Nat → Prop} {w0 wr : World} {vout : Value} {A : Option Addr} {n c : Nat} {rows : List (List Int)} {x : List Int} (h : OutSt2 e F w0 wr vout (.slice A n c) rows x) (hf : Fits x) (hl : rows.length ≤ 1000000) :
    ∃ A' c' w', (Builtin.append_ #[t, t] t #[vout, .slice (some ⟨wr.heap.size, 0, none⟩) 1 1]).run Try.prog (wr.alloc (.cells #[.slice A n c] e)) = .ok (.slice A' (rows.length + 1) c') w' ∧
      OutSt e (fun k => F k ∨ (Value.slice A n c).ownBlock = some k) w0 w' (.slice A' (rows.length + 1) c') (rows ++ [x]) := by
  have hub := h.st.out.block
  have hrb := owns_block h.row
  have hne : ∀ {k : Nat} {C : Array Value} {fr : Nat × Nat}, wr.heap[k]? = some (.cells C 3 fr) → vout.ownBlock ≠ some k := fun {k C fr} hc e' => by
    obtain ⟨-, C', hC'⟩ := hub k e'
    rw [hc] at hC'
    injection hC' with h5
    injection h5 with _ h6 _
    exact he h6.symm
  have hF2 : ∀ k, (F k ∨ (Value.slice A n c).ownBlock = some k) → k < wr.heap.size ∧ vout.ownBlock ≠ some k := fun k hk => by
    rcases hk with hk | hk
    · obtain ⟨h1, h2, C, hC⟩ := h.st.fs k hk
      exact ⟨h2, hne hC⟩
    · obtain ⟨h1, C, hC⟩ := hrb k hk
      exact ⟨(Array.getElem?_eq_some_iff.1 hC).1, hne hC⟩
  obtain ⟨A', c', w', hr, ho', hg, hw⟩ := push_row (ty := t) ht hi wr w0.heap.size (fun k => F k ∨ (Value.slice A n c).ownBlock = some k) vout rows (h.st.out.keep (fun _ _ => rfl) (Ag.refl _ _) (fun k hk => .inl hk)) A n c x ((IntsF.of_own h.row hf).mono fun k hk => .inr hk) hF2 (by omega) h.st.below.size
  refine ⟨A', c', w', hr, ⟨h.st.below.grown hg h.st.below.size (fun k hk => (hub k hk).1), ho', fun k hk => ?_⟩⟩
  have h2 := (hF2 k hk).1
  rcases hk with hk | hk
  · obtain ⟨h1, _, C, hC⟩ := h.st.fs k hk
    exact ⟨h1, Nat.lt_of_lt_of_le h2 hg.size, C, grown_cells hg hC (hne hC)⟩
  · obtain ⟨h1, C, hC⟩ := hrb k hk
    exact ⟨h1, Nat.lt_of_lt_of_le h2 hg.size, C, grown_cells hg hC (hne hC)⟩
end Go.Proofs.B18
namespace Go.Proofs.B18
open Go.RowKit Go.Shelf Go.Proofs.Ct
/-- u reads as xs by blocks from base on -/
def TabB (base : Nat) (w : World) (u : Value) (xs : List (List Int)) : Prop := ∀ w' : World, (∀ k, base ≤ k → k < w.heap.size → w'.heap[k]? = w.heap[k]?) → Tab w' u xs
theorem TabB.at_ {base : Nat} {w : World} {u : Value} {xs : List (List Int)} (h : TabB base w u xs) : Tab w u xs := h w fun _ _ _ => rfl
theorem TabB.nil {base : Nat} {w : World} : TabB base w (.slice none 0 0) [] := fun _ _ => tab_nil
theorem TabB.keep {base : Nat} {w w' : World} {u : Value} {xs : List (List Int)} (h : TabB base w u xs) (hs : w.heap.size ≤ w'.heap.size) (hk : ∀ k, base ≤ k → k < w.heap.size → w'.heap[k]? = w.heap[k]?) : TabB base w' u xs := fun w'' h'' => h w'' fun k h1 h2 => (h'' k h1 (by omega)).trans (hk k h1 h2)
theorem StdSt.tabB {bm : Nat} {F : Nat → Prop} {w0 wr : World} {vo vout : Value} {o : List Int} {rows : Tb} (h : StdSt bm F w0 wr vo vout o rows) : TabB w0.heap.size wr vout rows := fun w' hw => by
  have hub := h.out.block
  exact (h.out.keep (G := F) (fun r hr => hw r (hub r hr).1 (by obtain ⟨-, C, hC⟩ := hub r hr; exact (Array.getElem?_eq_some_iff.1 hC).1)) (fun k hk => hw k (h.fs k hk).1 (h.fs k hk).2.1) (fun _ h => h)).tab
def StdPostB (g : Int) (t : Tb) (b : Int) (w : World) (e : Ending) (w' : World) : Prop := (∃ u, e = .returned (.tuple #[u, .int .i64 (stdE g t b).2]) ∧ TabB w.heap.size w' u (stdE g t b).1) ∧ Below w.heap.size w w'
theorem fits_cos {n : Nat} {l : List Int} (h : Cos n l) (hn : n ≤ 1000000) : Fits l := fun x hx => by
  have := h.bd x hx
  omega
theorem fits_num {l : List Int} {row : List Int} (hl : l.length ≤ 1000000) : Fits (row.map (numOf l)) := fun x hx => by
  obtain ⟨y, -, rfl⟩ := List.mem_map.1 hx
  have := @numOf_bd l y
  omega
theorem StdSt.first {w0 w : World} {bm : Nat} {b : Int} (hB : Below w0.heap.size w0 w) (hbm : w0.heap.size ≤ bm) (hm : MapI w bm [b]) (_hb : I64 b) :
    StdSt bm (fun _ => False) w0 ((w.alloc (.cells #[.int .i64 b] 3)).alloc (.cells #[] 22)) (.slice (some ⟨w.heap.size, 0, none⟩) 1 1) (.slice (some ⟨w.heap.size + 1, 0, none⟩) 0 0) [b] [] := by
  have h1 := hB.size
  have hg : w.grownBy ((w.alloc (.cells #[.int .i64 b] 3)).alloc (.cells #[] 22)) none := (World.grownBy_alloc w _ none).trans (World.grownBy_alloc _ _ none)
  have e1 := allocs_get [.cells #[.int .i64 b] 3, .cells #[] 22] w 0 _ rfl
  have e2 := allocs_get [.cells #[.int .i64 b] 3, .cells #[] 22] w 1 _ rfl
  refine ⟨hB.grown hg h1 (fun k hk => by cases hk), hbm, hm.kept hg (by simp), ⟨rfl, .inr ⟨w.heap.size, 1, #[.int .i64 b], rfl, h1, e1, Nat.le_refl _, by simp [maxLen], rfl, rfl⟩⟩, ⟨[], ⟨rfl, .inr ⟨w.heap.size + 1, 0, #[], rfl, by omega, e2, Nat.le_refl _, by simp, rfl, rfl⟩⟩, RowsF.nil _ _⟩, fun k hk => hk.elim⟩
set_option maxRecDepth 100000 in
set_option maxHeartbeats 2000000 in
theorem std48_goodB (w : World) (v : Value) (g : Nat) (t : Tb) (b : Int) (ht : Tab w v t) (hg : TGood g t) (hb0 : 0 ≤ b) (hb1 : b < t.length) : Calls Try.prog 91 #[.int .i64 g, v, .int .i64 b] w (StdPostB g t b w) := by
  have hck := check_of_good hg
  have HC : Hid (Calls Try.prog 105 #[.int .i64 (g : Int), v] w fun e w' => e = .returned (.tuple #[.int .i64 0, .int .i64 (-1)]) ∧ Below w.heap.size w w') :=
    Lib.hid ((check43_any w v g t ht).mono fun e w' ⟨h2, h3⟩ => by rw [hck] at h2; exact ⟨h2, h3⟩)
  have HE1 : Hid (std t b = none → stdE g t b = ([], 13)) := Lib.hid fun h => by unfold stdE; rw [hck, if_neg (by simp), if_neg (by omega), h]
  have HE2 : Hid (∀ s, std t b = some s → stdE g t b = (s, 0)) := Lib.hid fun s h => by unfold stdE; rw [hck, if_neg (by simp), if_neg (by omega), h]
  obtain ⟨A, c, rfl, hc1, hc2, hc⟩ := ht.open_
  have hn2 := hg.n2
  obtain ⟨bt, ot, rfl, hcell⟩ := hc (by omega)
  have HT := Lib.hid hcell
  have HG := Lib.hid hg
  have hg16 := hg.g16
  have hg16' : (g : Int) ≤ 16 := by omega
  have hg0 : (0 : Int) ≤ (g : Int) := Int.natCast_nonneg _
  have hbI : I64 b := ⟨by omega, by omega⟩
  have HBI := Lib.hid hbI
  have hmm : ∀ w, (Instr.makeMap 149 none).run Try.prog w = .ok (.map (some w.heap.size)) (w.alloc (.map #[] 0)) := fun _ => rfl
  clear hcell hc ht hck hg hbI
  go_enter Try.func91, Try.ntmps91
  go_wp2_with (first
    | (go_at_call 105
       (refine HC.out.mono ?_)
       rintro e w1 ⟨rfl, hb⟩
       have HB := Lib.hid hb
       obtain ⟨w2, hr2, hm2, hgr2⟩ := (MapI.made w1).put HBI.out (by simp) (by simp)
       have HR2 := Lib.hid hr2
       have HM2 := Lib.hid hm2
       have HB2 : Hid (Below w.heap.size w w2) := Lib.hid ((hb.alloc hb.size _).grown hgr2 (by have := hb.size; simp; omega) (fun k hk => by cases hk; exact hb.size))
       have HBM : Hid (w.heap.size ≤ w1.heap.size) := Lib.hid hb.size
       clear hb hr2 hm2 hgr2)
    | ((with_reducible refine wpList_selIns 149 36 37 _ ?_); refine wpList_skip rfl (r_ins 149 (.tmp 36) (.tmp 37) _ rfl rfl rfl rfl HR2.out) ?_))
  have hbx : I64 b := HBI.out
  have hst := StdSt.first HB2.out HBM.out HM2.out HBI.out
  have HST := Lib.hid hst
  clear hst hbx
  go_loopw [11, 12, 13] (fun so su i wr => ∃ k n : Nat, i = .int .i64 k ∧ k ≤ n ∧ k ≤ t.length ∧ Hid (n = (ordTo t b k).length) ∧ (∃ F A c A2 c2, so = .slice A n c ∧ su = .slice A2 k c2 ∧ Hid (StdSt w1.heap.size F w wr so su (ordTo t b k) (outTo (ord t b) t k))) ∧
    Hid (∀ j, j < k → ∀ c, c < (t.row ((ord t b).getD j 0).toNat).length → 0 ≤ (t.row ((ord t b).getD j 0).toNat).getD c 0)) (fun _ _ i _ => t.length - (intOf i).toNat)
  case atStart => exact ⟨0, 1, rfl, by omega, by omega, Lib.hid rfl, ⟨_, _, _, _, _, rfl, rfl, HST⟩, Lib.hid fun j hj => absurd hj (by omega)⟩
  case round =>
    clear HST
    obtain ⟨k, n, rfl, hkn, hkt, HN, ⟨F, A, c', A2, c2, rfl, rfl, HST⟩, HNG⟩ := hrel
    have hk0 : (0 : Int) ≤ (k : Int) := Int.natCast_nonneg _
    by_cases hlt : k < n
    · have hC : Cos t.length (ordTo t b k) := Cos.ordTo HG.out hb0 hb1 k
      have hnl := length_le_of_nodup hC
      have hn3 : n ≤ t.length := by have := HN.out; omega
      have hx := hC.get (k := k) (by have := HN.out; omega)
      obtain ⟨r', hr'⟩ := Int.eq_ofNat_of_zero_le hx.1
      have hr1 : r' < t.length := by omega
      have hrl := HG.out.len r' hr1
      have HRL := Lib.hid hrl
      have hord : (ord t b).getD k 0 = (r' : Int) := by
        rw [show ord t b = ordTo t b t.length from rfl, pre_get (ordTo_mono t b hkt) (by have := HN.out; omega), hr']
      have HORD := Lib.hid hord
      have hstep : ordTo t b (k + 1) = visitTo (t.row r') (t.row r').length (ordTo t b k) := by
        rw [ordTo, if_pos (by have := HN.out; omega), hr']
        simp
      have hpre : visitTo (t.row r') (t.row r').length (ordTo t b k) <+: ord t b := by
        rw [← hstep]
        exact ordTo_mono t b (by have := HN.out; omega)
      have HSTEP := Lib.hid hstep
      have HPRE := Lib.hid hpre
      have HCOS := Lib.hid hC
      obtain ⟨A3, c3, w3, hr3, hS3⟩ := HST.out.start g hg16
      have hoI := hS3.st.ord.ints (fits_cos hC (by omega))
      obtain ⟨A5, c5, e5, he1, he2, he⟩ := hoI.open_
      obtain ⟨rfl, -, rfl⟩ := Value.slice.inj e5
      obtain ⟨b5, o5, rfl, hoc⟩ := he (by have := HN.out; omega)
      have hock := hoc k (by have := HN.out; omega)
      rw [hr'] at hock
      obtain ⟨u, hu, hI⟩ := HT.out r' hr1
      have hu3 := (hS3.st.below.cell (p := ⟨bt, ot + r', none⟩) (World.block_lt_of_cell? w _ hu)).trans hu
      have hI2 : IntsAt w u (t.row r') := hI
      obtain ⟨Au, cu, rfl, hu1, hu2, huc⟩ := hI2.open_
      obtain ⟨bu, ou, rfl, huc'⟩ := huc (by have := HG.out.g1; omega)
      have HUC := Lib.hid huc'
      have HR3 := Lib.hid hr3
      have HS3 := Lib.hid hS3
      have hr0 : (0 : Int) ≤ (r' : Int) := Int.natCast_nonneg _
      have hr2 : (r' : Int) < (t.length : Int) := by omega
      have hkn' : (k : Int) < (n : Int) := by omega
      have HX := Lib.hid hr'
      clear hr3 hS3 hoI e5 he he1 he2 hoc hu hI hI2 huc huc' hrl hord hstep hpre hC hx hr'
      go_wp2_with ((with_reducible refine wpList_sel 50 ?_); refine wpList_val rfl (r_make 22 _ (.tmp 49) rfl rfl rfl HR3.out) ?_)
      go_loopw [11, 14, 59] (fun so sr i wr2 => ∃ j m : Nat, i = .int .i64 j ∧ j ≤ (t.row r').length ∧ Hid (m = (visitTo (t.row r') j (ordTo t b k)).length) ∧
        (∃ A c A3 c3, so = .slice A m c ∧ sr = .slice A3 j c3 ∧ Hid (StdSt2 w1.heap.size F w wr2 so (.slice A2 k c2) sr (visitTo (t.row r') j (ordTo t b k)) (outTo (ord t b) t k) (((t.row r').take j).map (numOf (ord t b))))) ∧
        Hid (∀ c, c < j → 0 ≤ (t.row r').getD c 0)) (fun _ _ i _ => (t.row r').length - (intOf i).toNat)
      case atStart => exact ⟨0, n, rfl, by omega, HN, ⟨_, _, _, _, rfl, rfl, HS3⟩, Lib.hid fun j hj => absurd hj (by omega)⟩
      case round =>
        clear HS3 hock hu3
        obtain ⟨j, m, rfl, hj, HM, ⟨A6, c6, A7, c7, rfl, rfl, HS⟩, HNJ⟩ := hrel
        have hj0 : (0 : Int) ≤ (j : Int) := Int.natCast_nonneg _
        by_cases hjl : j < (t.row r').length
        · have hcs := HUC.out j hjl
          have hcs' := (HS.out.st.below.cell (p := ⟨bu, ou + j, none⟩) (World.block_lt_of_cell? w _ hcs)).trans hcs
          have hbd := HG.out.bd r' hr1 j (by have := HRL.out; omega)
          have hbd' : -1 ≤ (t.row r').getD j 0 ∧ (t.row r').getD j 0 < t.length := hbd
          have HSJ : Hid (visitTo (t.row r') (j + 1) (ordTo t b k) = visit (visitTo (t.row r') j (ordTo t b k)) ((t.row r').getD j 0)) := Lib.hid rfl
          have HXJ := Lib.hid (map_take_succ (f := numOf (ord t b)) hjl)
          have HNT : Hid ((t.row r').getD j 0 < 0 → std t b = none) := Lib.hid fun h => std_neg (neg_true hr1 hjl h)
          have HPJ : Hid (visitTo (t.row r') (j + 1) (ordTo t b k) <+: ord t b) := Lib.hid ((visitTo_mono _ (by omega) _).trans HPRE.out)
          have HCJ : Hid (Cos t.length (visitTo (t.row r') j (ordTo t b k))) := Lib.hid (HCOS.out.visitTo (fun c hc => (HG.out.bd r' hr1 c (by have := HRL.out; omega)).2) (by omega))
          have HNN : Hid (0 ≤ (t.row r').getD j 0 → ∀ c, c < j + 1 → 0 ≤ (t.row r').getD c 0) := Lib.hid fun h => all_succ HNJ.out h
          have hxl : (((t.row r').take j).map (numOf (ord t b))).length = j := by rw [List.length_map, List.length_take]; omega
          have hml := length_le_of_nodup HCJ.out
          clear hcs hbd
          generalize (t.row r').getD j 0 = s at *
          generalize visitTo (t.row r') j (ordTo t b k) = oj at *
          generalize ((t.row r').take j).map (numOf (ord t b)) = xj at *
          have hI : I64 s := ⟨by omega, by omega⟩
          by_cases hs : s < 0
          · have HZ := Lib.hid (HE1.out (HNT.out hs))
            have HBW := Lib.hid HS.out.st.below
            clear hI hxl hml
            go_wp2_with fail
            go_ret2
            exact ⟨⟨.slice none 0 0, ret_of2 rfl (by rw [HZ.out]), by rw [HZ.out]; exact TabB.nil⟩, HBW.out⟩
          · by_cases hin : s ∈ oj
            · have hv : visit oj s = oj := by unfold visit; simp [hin]
              have hsj := HSJ.out
              rw [hv] at hsj
              have hpj := HPJ.out
              rw [hsj] at hpj
              have hnum := idxOf_pre hpj hin
              obtain ⟨c0, hl1⟩ := HS.out.st.map.look_ok hI
              rw [show oj.contains s = true by simpa using hin] at hl1
              have hl2 := HS.out.st.map.look hI hin
              obtain ⟨A8, c8, w8, hr8, hS8⟩ := HS.out.add (numOf oj s) (by have := HRL.out; omega)
              rw [hxl] at hr8 hS8
              rw [← hnum] at hl2 hr8 hS8
              rw [← HXJ.out] at hS8
              have HL1 := Lib.hid hl1
              have HL2 := Lib.hid hl2
              have HR8 := Lib.hid hr8
              have HS8 := Lib.hid hS8
              have HM8 : Hid (m = (visitTo (t.row r') (j + 1) (ordTo t b k)).length) := Lib.hid (by rw [hsj]; exact HM.out)
              rw [← hsj] at HS8
              clear hv hsj hpj hnum hl1 hl2 hr8 hS8 hI hxl hml
              go_wp2_with (first
                | ((with_reducible refine wpList_sel 68 ?_); refine wpList_val rfl (r_look 149 (.tmp 66) (.tmp 67) rfl rfl rfl HL1.out) ?_)
                | ((with_reducible refine wpList_sel 84 ?_); refine wpList_val rfl (r_look 149 (.tmp 82) (.tmp 83) rfl rfl rfl HL2.out) ?_)
                | ((with_reducible refine wpList_sel 86 ?_); refine wpList_val rfl (r_app (.tmp 81) (.tmp 85) 22 rfl rfl rfl HR8.out) ?_))
              go_roundw
              case rel => exact ⟨j + 1, m, by go_num, by omega, HM8, ⟨_, _, _, _, rfl, rfl, HS8⟩, Lib.hid (HNN.out (by omega))⟩
              case measure => simp [intOf]; omega
            · have hv : visit oj s = oj ++ [s] := by unfold visit; simp [hin]; omega
              have hsj := HSJ.out
              rw [hv] at hsj
              have hpj := HPJ.out
              rw [hsj] at hpj
              have hnum := idxOf_pre hpj (x := s) (by simp)
              obtain ⟨c0, hl1⟩ := HS.out.st.map.look_ok hI
              rw [show oj.contains s = false by simpa using hin] at hl1
              obtain ⟨wm, A9, c9, w9, hrm, hr9, hS9⟩ := HS.out.visit hI hin (by omega)
              rw [← HM.out] at hrm hr9 hS9
              have hl2 := hS9.st.map.look hI (by simp)
              obtain ⟨A8, c8, w8, hr8, hS8⟩ := hS9.add (numOf (oj ++ [s]) s) (by have := HRL.out; omega)
              rw [hxl] at hr8 hS8
              rw [← hnum] at hl2 hr8 hS8
              rw [← HXJ.out] at hS8
              have HL1 := Lib.hid hl1
              have HL2 := Lib.hid hl2
              have HR8 := Lib.hid hr8
              have HR9 := Lib.hid hr9
              have HRM := Lib.hid hrm
              have HS8 := Lib.hid hS8
              have HM8 : Hid (m + 1 = (visitTo (t.row r') (j + 1) (ordTo t b k)).length) := Lib.hid (by rw [hsj, List.length_append, HM.out]; rfl)
              rw [← hsj] at HS8
              clear hv hsj hpj hnum hl1 hl2 hr8 hr9 hrm hS8 hS9 hI hxl hml
              go_wp2_with (first
                | ((with_reducible refine wpList_sel 68 ?_); refine wpList_val rfl (r_look 149 (.tmp 66) (.tmp 67) rfl rfl rfl HL1.out) ?_)
                | ((with_reducible refine wpList_selMu 149 73 74 76 ?_); refine wpList_skip rfl (r_mu 149 (.tmp 73) (.tmp 74) (.tmp 76) rfl rfl rfl rfl HRM.out) ?_)
                | ((with_reducible refine wpList_sel 80 ?_); refine wpList_val rfl (r_app (.tmp 77) (.tmp 79) 22 rfl rfl rfl HR9.out) ?_)
                | ((with_reducible refine wpList_sel 84 ?_); refine wpList_val rfl (r_look 149 (.tmp 82) (.tmp 83) rfl rfl rfl HL2.out) ?_)
                | ((with_reducible refine wpList_sel 86 ?_); refine wpList_val rfl (r_app (.tmp 81) (.tmp 85) 22 rfl rfl rfl HR8.out) ?_))
              go_roundw
              case rel => exact ⟨j + 1, m + 1, by go_num, by omega, HM8, ⟨_, _, _, _, rfl, rfl, HS8⟩, Lib.hid (HNN.out (by omega))⟩
              case measure => simp [intOf]; omega
        · obtain rfl : j = (t.row r').length := by omega
          rename World => wy
          have hS := HS.out
          rw [List.take_of_length_le (Nat.le_refl _)] at hS
          have hxl : ((t.row r').map (numOf (ord t b))).length = (t.row r').length := List.length_map _
          have hS' : StdSt2 w1.heap.size F w wy (.slice A6 m c6) (.slice A2 k c2) (.slice A7 ((t.row r').map (numOf (ord t b))).length c7) (visitTo (t.row r') (t.row r').length (ordTo t b k)) (outTo (ord t b) t k) ((t.row r').map (numOf (ord t b))) := by rw [hxl]; exact hS
          have hol : (ord t b).length ≤ 1000000 := by
            have := length_le_of_nodup (Cos.ordTo HG.out hb0 hb1 t.length)
            show (ordTo t b t.length).length ≤ 1000000
            omega
          obtain ⟨A8, c8, w8, hr8, hS8⟩ := hS'.done (fits_num hol) (by rw [length_outTo]; omega)
          rw [length_outTo] at hr8 hS8
          rw [hxl] at hr8
          have he8 : outTo (ord t b) t (k + 1) = outTo (ord t b) t k ++ [(t.row r').map (numOf (ord t b))] := by rw [outTo_succ, HORD.out]; rfl
          rw [← he8, ← HSTEP.out] at hS8
          have HR8 := Lib.hid hr8
          have HS8 := Lib.hid hS8
          have HM8 : Hid (m = (ordTo t b (k + 1)).length) := Lib.hid (by rw [HSTEP.out]; exact HM.out)
          have HNK : Hid (∀ j, j < k + 1 → ∀ c, c < (t.row ((ord t b).getD j 0).toNat).length → 0 ≤ (t.row ((ord t b).getD j 0).toNat).getD c 0) := Lib.hid (all_succ HNG.out (by rw [HORD.out]; exact HNJ.out))
          have hmk : k + 1 ≤ m := by
            have h1 := (visitTo_pre (t.row r') (t.row r').length (ordTo t b k)).length_le
            have h2 := HM.out
            have h3 := HN.out
            omega
          clear hS hS' hxl hol hr8 hS8 he8
          go_wp2_with ((with_reducible refine wpList_sel 91 ?_); refine wpList_val rfl (r_app (.tmp 88) (.tmp 90) 74 rfl rfl rfl HR8.out) ?_)
          go_roundw
          case rel => exact ⟨k + 1, m, by go_num, hmk, by omega, HM8, ⟨_, _, _, _, _, rfl, rfl, HS8⟩, HNK⟩
          case measure => simp [intOf]; omega
    · obtain rfl : k = n := by omega
      have hend : ord t b = ordTo t b k := ord_end (by have := HN.out; omega) hkt
      have HEND := Lib.hid hend
      have HT2 := Lib.hid HST.out.tabB
      have HBW := Lib.hid HST.out.below
      clear hend
      by_cases hkl : k = t.length
      · have d5 : ((k : Int) != (t.length : Int)) = false := by simp [hkl]
        have hs := std_full HG.out hb0 hb1 (by rw [HEND.out, ← HN.out]; exact hkl) (by rw [← hkl]; exact HNG.out)
        have HZ := Lib.hid (HE2.out _ hs)
        have HKL := Lib.hid hkl
        clear hkl hs
        go_wp2_with fail
        go_ret2
        exact ⟨⟨_, ret_of2 rfl (by rw [HZ.out]), by rw [HZ.out, ← HKL.out]; exact HT2.out⟩, HBW.out⟩
      · have d5 : ((k : Int) != (t.length : Int)) = true := by simp; omega
        have HZ := Lib.hid (HE1.out (std_short (by rw [HEND.out, ← HN.out]; exact hkl)))
        clear hkl
        go_wp2_with fail
        go_ret2
        exact ⟨⟨.slice none 0 0, ret_of2 rfl (by rw [HZ.out]), by rw [HZ.out]; exact TabB.nil⟩, HBW.out⟩
end Go.Proofs.B18
namespace Go.Proofs.B18
open Go.RowKit Go.Shelf Go.Proofs.Ct
def numL (o : List Int) (n : Nat) : List Int := (List.range n).map fun (i : Nat) => if o.contains (i : Int) then numOf o (i : Int) else -1
def fillL (i n : Nat) : List Int := (List.range n).map fun (j : Nat) => if j < i then -1 else 0
theorem length_numL (o : List Int) (n : Nat) : (numL o n).length = n := by simp [numL]
theorem length_fillL (i n : Nat) : (fillL i n).length = n := by simp [fillL]
theorem map_range_set {f g : Nat → Int} {n k : Nat} {v : Int} (hv : g k = v) (ho : ∀ j, j < n → j ≠ k → g j = f j) : ((List.range n).map f).set k v = (List.range n).map g := by
  refine getD_ext (d := 0) (by simp) fun j hj => ?_
  have hj' : j < n := by simpa using hj
  rw [getD_set]
  by_cases e : k = j
  · subst e
    rw [if_pos ⟨rfl, by simpa using hj'⟩]
    simp [List.getD_eq_getElem?_getD, hj', hv]
  · rw [if_neg (fun h => e h.1)]
    simp [List.getD_eq_getElem?_getD, hj', ho j hj' (Ne.symm e)]
theorem fillL_full (n : Nat) : fillL n n = numL [] n := by
  unfold fillL numL
  apply List.map_congr_left
  intro j hj
  simp at hj
  simp [hj]
theorem numL_set {o : List Int} {n s : Nat} (hs : (s : Int) ∉ o) : (numL o n).set s o.length = numL (o ++ [(s : Int)]) n := by
  refine map_range_set ?_ fun j _ hne => ?_
  · rw [if_pos (by simp), numOf_new hs (List.prefix_refl _)]
  · have hne' : (j : Int) ≠ (s : Int) := by omega
    by_cases hm : (j : Int) ∈ o
    · rw [if_pos (by simp [hm]), if_pos (by simpa using hm), idxOf_pre (List.prefix_append _ _) hm]
    · rw [if_neg (by simp [hm, hne']), if_neg (by simpa using hm)]
/-- the numbers in a block, the order in a slice of its own -/
structure NumSt (nb n : Nat) (w0 wr : World) (vo : Value) (o : List Int) : Prop where
  below : Below w0.heap.size w0 wr
  nb0 : w0.heap.size ≤ nb
  num : XsAt wr nb (numL o n)
  ord : OwnI w0.heap.size wr vo o
  ap : vo.ownBlock ≠ some nb
theorem NumSt.visit {nb n : Nat} {w0 wr : World} {vo : Value} {o : List Int} (h : NumSt nb n w0 wr vo o) {s : Nat} (hs : s < n) (hn : (s : Int) ∉ o) (ho : o.length ≤ 100000) :
    ∃ A' c' w', (Builtin.append_ #[22, 22] 22 #[vo, .slice (some ⟨wr.heap.size, 0, none⟩) 1 1]).run Try.prog ((wr.setCell ⟨nb, s, none⟩ (.int .i64 (o.length : Int))).alloc (.cells #[.int .i64 (s : Int)] 3)) = .ok (.slice A' (o.length + 1) c') w' ∧
      NumSt nb n w0 w' (.slice A' (o.length + 1) c') (o ++ [(s : Int)]) := by
  have hg1 := grown_setCell wr nb s (.int .i64 (o.length : Int))
  have hx := h.num.set (k := s) (by rw [length_numL]; exact hs) (o.length : Int)
  rw [numL_set hn] at hx
  have hor : OwnI w0.heap.size (wr.setCell ⟨nb, s, none⟩ (.int .i64 (o.length : Int))) vo o := owns_keep h.ord fun r hr =>
    hg1.block r (owns_lt h.ord hr) (fun e => h.ap (by rw [hr]; exact e))
  have hB1 : Below w0.heap.size w0 (wr.setCell ⟨nb, s, none⟩ (.int .i64 (o.length : Int))) := h.below.grown hg1 h.below.size (fun k hk => by cases hk; exact h.nb0)
  have hsz : (wr.setCell ⟨nb, s, none⟩ (.int .i64 (o.length : Int))).heap.size = wr.heap.size := by simp [World.setCell]
  generalize wr.setCell ⟨nb, s, none⟩ (.int .i64 (o.length : Int)) = W at *
  obtain ⟨A', c', w', hr, ho', hg, hw⟩ := push_int 22 22 Try.underlying22 W w0.heap.size vo o hor (s : Int) (by omega) hB1.size
  rw [hsz] at hr
  refine ⟨A', c', w', hr, hB1.grown hg hB1.size (fun k hk => (owns_block hor k hk).1), h.nb0, hx.grown hg h.ap, ho', fun e => ?_⟩
  rcases hw with hw | ⟨r', hr', hge⟩
  · exact h.ap (hw.symm.trans e)
  · rw [hr'] at e
    have : r' = nb := Option.some.inj e
    have := hx.lt
    omega
theorem made3 (n : Nat) : madeCells (Value.int .i64 0).cells n = Array.replicate n (.int .i64 0) := by
  apply Array.ext_getElem?
  intro k
  simp only [madeCells, Value.cells, Array.getElem?_map, Array.getElem?_range, Array.getElem?_replicate]
  by_cases h : k < n
  · simp [h, Nat.mod_one]
  · simp [h]
theorem NumSt.first {n nb : Nat} {w0 w : World} {b : Nat} (hB : Below w0.heap.size w0 w) (hnb : w0.heap.size ≤ nb) (hx : XsAt w nb (fillL n n)) (hb : b < n) :
    NumSt nb n w0 ((w.alloc (.cells #[.int .i64 (b : Int)] 3)).setCell ⟨nb, b, none⟩ (.int .i64 0)) (.slice (some ⟨w.heap.size, 0, none⟩) 1 1) [(b : Int)] := by
  have h1 := hB.size
  have h2 := hx.lt
  have hal : Below w.heap.size w (w.alloc (.cells #[.int .i64 (b : Int)] 3)) := (Below.refl _ _).alloc (Nat.le_refl _) _
  have hg := grown_setCell (w.alloc (.cells #[.int .i64 (b : Int)] 3)) nb b (.int .i64 0)
  have hx2 := (hx.below hal).set (k := b) (by rw [length_fillL]; exact hb) 0
  rw [fillL_full] at hx2
  have hx3 := numL_set (o := []) (n := n) (s := b) (by simp)
  simp only [List.length_nil, List.nil_append] at hx3
  rw [show ((0 : Nat) : Int) = 0 from rfl] at hx3
  rw [hx3] at hx2
  refine ⟨(hB.trans (hal.mono h1)).grown hg (by have := hal.size; omega) (fun k hk => by cases hk; exact hnb), hnb, hx2, ⟨rfl, .inr ⟨w.heap.size, 1, #[.int .i64 (b : Int)], rfl, h1, ?_, Nat.le_refl _, by simp [maxLen], rfl, rfl⟩⟩, fun e => ?_⟩
  · refine (hg.block w.heap.size (by simp) (fun e => ?_)).trans (heap_alloc_new w _)
    have : w.heap.size = nb := Option.some.inj e
    omega
  · have : w.heap.size = nb := Option.some.inj e
    omega
theorem TabB.mono {B B' : Nat} {w : World} {u : Value} {xs : List (List Int)} (h : TabB B w u xs) (hB : B' ≤ B) : TabB B' w u xs := fun w' hw => h w' fun k h1 h2 => hw k (Nat.le_trans hB h1) h2
theorem OutSt.tabB {e : TypeId} {F : Nat → Prop} {w0 wr : World} {vout : Value} {rows : List (List Int)} (h : OutSt e F w0 wr vout rows) : TabB w0.heap.size wr vout rows := fun w' hw => by
  have hub := h.out.block
  exact (h.out.keep (G := F) (fun r hr => hw r (hub r hr).1 (by obtain ⟨-, C, hC⟩ := hub r hr; exact (Array.getElem?_eq_some_iff.1 hC).1)) (fun k hk => hw k (h.fs k hk).1 (h.fs k hk).2.1) (fun _ h => h)).tab
end Go.Proofs.B18
