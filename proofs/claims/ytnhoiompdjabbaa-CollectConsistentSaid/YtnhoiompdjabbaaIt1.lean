/- What the iterator's walk leans on. -/
import Derived.Test.YtnhoiompdjabbaaOpl
import Derived.RangeFuncCalls
import Derived.Shelf.Abstract
import Derived.OwnWalkIn
import Derived.TacticsInMore
import Derived.LoopNIn
import Derived.LoopIn
namespace Go.Proofs
open Go.RowKit Go.Proofs.Pc

theorem wide_fn (f : FuncId) : Fence.wide.fn f := trivial

inductive SV where
  | c (v : Value)
  | vs (l : List (List Int))
  | any
def SV.holds : SV → Value → World → Prop
  | SV.c u, v, _ => v = u
  | SV.vs l, v, w => VecsAt w v l
  | SV.any, _, _ => True
theorem VecsAt.below {w w' : World} {v : Value} {l : List (List Int)} (h : VecsAt w v l) (hb : Below w.heap.size w w') : VecsAt w' v l := by
  obtain ⟨b, cap, rfl, h1, h2, h3⟩ := h
  refine ⟨b, cap, rfl, h1, h2, fun i hi j u hu => ?_⟩
  have := h3 i hi j u hu
  rw [hb.cell (World.block_lt_of_cell? w _ this)]
  exact this
theorem SV.keep {s : SV} {v : Value} {w w' : World} (h : Below w.heap.size w w') : s.holds v w → s.holds v w' := by
  cases s with
  | c _ => exact id
  | vs l => exact fun hh => VecsAt.below hh h
  | any => exact id

/-- whatever block of cells lay, lies -/
def KC (w w' : World) : Prop := w.heap.size ≤ w'.heap.size ∧ ∀ (k : Nat) (C : Array Value) (t : TypeId) (fr : Nat × Nat), w.heap[k]? = some (Obj.cells C t fr) → w'.heap[k]? = some (Obj.cells C t fr)
theorem KC.refl (w : World) : KC w w := ⟨Nat.le_refl _, fun _ _ _ _ h => h⟩
theorem KC.trans {a b c : World} (h : KC a b) (k : KC b c) : KC a c := ⟨Nat.le_trans h.1 k.1, fun i C t fr hi => k.2 i C t fr (h.2 i C t fr hi)⟩
theorem KC.of_below {w w' : World} (h : Below w.heap.size w w') : KC w w' := ⟨h.size, fun k _C _t _fr hk => (h.block k (Array.getElem?_eq_some_iff.1 hk).1).trans hk⟩
theorem KC.put {W : World} {l : Nat} {o o' : Obj} (h : W.heap[l]? = some o) (hc : o.isCells = false) : KC W (W.putObj l o') :=
  ⟨by simp, fun k C t fr hk => by
    by_cases e : k = l
    · subst e; rw [h] at hk; cases hk; cases hc
    · exact (World.putObj_heap_other e).trans hk⟩
theorem KC.cell {w w' : World} (h : KC w w') {a : Addr} {v : Value} (hc : w.cell? a = some v) : w'.cell? a = some v := by
  unfold World.cell? at hc ⊢
  cases ho : w.heap[a.block]? with
  | none => simp [ho] at hc
  | some o =>
    cases o with
    | cells C t fr => rw [h.2 _ C t fr ho]; simpa [ho] using hc
    | _ => simp [ho] at hc
theorem KC.range {w w' : World} (h : KC w w') {b o : Nat} {cs : List Value} (hc : w.rangeAt b o cs) : w'.rangeAt b o cs := fun j v hv => h.cell (hc j v hv)
theorem KC.rules {w w' : World} (h : KC w w') {br : Nat} {P : PcD} (hr : RulesAt w br P) : RulesAt w' br P :=
  ⟨h.cell hr.n, h.range hr.ord, fun i hi => h.range (hr.pow i hi), fun j hj i hi => h.range (hr.cj j hj i hi)⟩
theorem KC.coll {w w' : World} (h : KC w w') {bc br : Nat} {x : List Int} (hc : CollAt w bc br x) : CollAt w' bc br x := h.2 _ _ _ _ hc

theorem call71 (args : Array Value) (w : World) : (callFunc 71 args).run Try.prog w = .ok (.enter 71 args) w := 
  enters_of Try.func71 (by kernel_rfl) rfl args w
theorem call81 (args : Array Value) (w : World) : (callFunc 81 args).run Try.prog w = .ok (.enter 81 args) w := 
  enters_of Try.func81 (by kernel_rfl) rfl args w

theorem nvs1 {P : PcD} {y : List Int} (h : NV P y) : ∀ i, i < [y].length → NV P ([y].getD i []) := fun i hi => by
  have : i = 0 := by simp at hi; omega
  subst this; exact h
theorem nvs2 {P : PcD} {y z : List Int} (h : NV P y) (h2 : NV P z) : ∀ i, i < [y, z].length → NV P ([y, z].getD i []) := fun i hi => by
  have : i = 0 ∨ i = 1 := by simp at hi; omega
  rcases this with rfl | rfl
  · exact h
  · exact h2

theorem mul_R {P : PcD} (hv : Valid P) {w : World} {br : Nat} {sv : Value} {x : List Int} {ys : List (List Int)} (hr : RulesAt w br P) (hs : VecsAt w sv (x :: ys)) (hx : NV P x) (hy : ∀ i, i < ys.length → NV P (ys.getD i [])) (hpos : 0 < ys.length) :
    Calls Try.prog 71 #[.pointer (some ⟨br, 0, none⟩), sv] w fun e w' => ∃ v, e = .returned v ∧ (v = .agg (vec (foldP P x ys ys.length)).toArray ∧ Below w.heap.size w w') :=
  (mul_any hv w br sv x ys hr hs hx hy hpos).mono fun _e _w' ⟨he, hb⟩ => ⟨_, he, rfl, hb⟩

theorem mul_R1 {P : PcD} (hv : Valid P) {w : World} {br : Nat} {sv : Value} {x y : List Int} (hr : RulesAt w br P) (hs : VecsAt w sv [x, y]) (hx : NV P x) (hy : NV P y) :
    Calls Try.prog 71 #[.pointer (some ⟨br, 0, none⟩), sv] w fun e w' => ∃ v, e = .returned v ∧ (v = .agg (vec (mulP P x y)).toArray ∧ Below w.heap.size w w') :=
  mul_R hv hr hs hx (nvs1 hy) (by simp)

theorem vec_unit {P : PcD} {i : Nat} {x : Int} (hi : i < P.n) (hn : P.n ≤ 12) : vec (unitP i x) = vec (uP P i x) := by
  unfold vec
  refine List.map_congr_left fun k hk => ?_
  rw [getD_unitP _ _ _ (by omega), getD_uP]
  by_cases h : k = i
  · subst h; rw [if_pos rfl, if_pos ⟨rfl, hi⟩]
  · rw [if_neg h, if_neg (fun hh => h hh.1)]
theorem unit_R (P : PcD) (i : Nat) (x : Int) (hi : i < P.n) (hn : P.n ≤ 12) {w : World} :
    Calls Try.prog 81 #[.int .i64 i, .int .i64 x] w fun e w' => ∃ v, e = .returned v ∧ (v = .agg (vec (uP P i x)).toArray ∧ Below w.heap.size w w') :=
  (unit_any w i x (by omega)).mono fun e w' ⟨he, hb⟩ => ⟨_, he, by rw [vec_unit hi hn], hb⟩

theorem wpOpIn_of {F : Fence} {n : Nat} {P : Program} {ops : Array Oper} {Q : Exit → Act → World → Prop} {i : Nat} {o : Oper} {K : Act → World → Prop} {a : Act} {w : World} (ho : ops[i]? = some o) (hg : o.guard = none) (h : o.wpIn F n P a w K Q) : wpOpIn F n P ops Q i K a w := by
  unfold wpOpIn
  rw [ho]
  simp only [Region.wanted, hg, if_true]
  exact h

section
variable {o : Oper} {rest : List Oper} {ops : Array Oper} {a : Act} {w w' : World} {n : Nat} {Q : Exit → Act → World → Prop} {v : Value}
theorem wpListIn_sel (s : Nat) {F : Fence} {op : Op} {t : TypeId} {p : String} {af : Array Edge} {g : Option (Nat × Bool)} (h : wpListIn F n Try.prog ops Q (⟨some s, op, t, p, af, g⟩ :: rest) a w) : wpListIn F n Try.prog ops Q (⟨some s, op, t, p, af, g⟩ :: rest) a w := h
theorem wpListIn_val (hg : o.guard = none) (hrun : (execOp a.eval o).run Try.prog w = .ok (.value v) w') (h : wpListIn Fence.wide n Try.prog ops Q rest (a.put o.dst v) w') : wpListIn Fence.wide n Try.prog ops Q (o :: rest) a w :=
  wpListIn_plain hg fun _ hK => wpW_val hrun (hK _ _ h)
theorem wpListIn_callW {f : FuncId} {args : Array Value} {R : Value → World → Prop} (hg : o.guard = none) (hrun : (execOp a.eval o).run Try.prog w = .ok (.enter f args) w')
    (hc : Calls Try.prog f args w' fun e w'' => ∃ v, e = .returned v ∧ R v w'') (h : ∀ v w'', R v w'' → wpListIn Fence.wide n Try.prog ops Q rest (a.put o.dst v) w'') : wpListIn Fence.wide n Try.prog ops Q (o :: rest) a w :=
  wpListIn_plain hg fun _ hK => wpW_call hrun hc (fun v w'' hR => hK _ _ (h v w'' hR))
end

theorem r_bld113 {o : Oper} {a : Act} {w : World} (x y : Operand) (br : Nat) (xs : List Int) (ho : o.op = .build 113 #[(0, x), (1, y)]) (hx : a.eval x = .pointer (some ⟨br, 0, none⟩)) (hy : a.eval y = .agg (vec xs).toArray) :
    (execOp a.eval o).run Try.prog w = .ok (.value (.agg (Value.pointer (some ⟨br, 0, none⟩) :: vec xs).toArray)) w := by
  have hb := build113 br xs w
  unfold execOp
  simp only [ho, List.map_toArray, List.map_cons, List.map_nil, hx, hy, Sem.run_bind, hb, Result.andThen_ok]
  rfl

def LJ (P : PcD) (i j : Nat) : List (List Int × List Int) := ovI P i ++ ([pI P i] ++ ovJ P i j)
def LK (P : PcD) (i j k : Nat) : List (List Int × List Int) := LJ P i j ++ [pJ1 P i j] ++ [pJ2 P i j] ++ ovK P i j k
theorem LJ_start (P : PcD) (i : Nat) : LJ P i (i + 1) = ovI P i ++ [pI P i] := by
  have e : ovJ P i (i + 1) = [] := by unfold ovJ; rw [Nat.sub_self]; rfl
  unfold LJ
  rw [e, List.append_nil]
theorem LJ_end (P : PcD) (i : Nat) : LJ P i P.n = ovI P (i + 1) := rfl
theorem LK_start (P : PcD) (i j : Nat) : LK P i j (j + 1) = LJ P i j ++ [pJ1 P i j] ++ [pJ2 P i j] := by
  have e : ovK P i j (j + 1) = [] := by unfold ovK; rw [Nat.sub_self]; rfl
  unfold LK
  rw [e, List.append_nil]
theorem LK_end (P : PcD) {i j : Nat} (h : i + 1 ≤ j) : LK P i j P.n = LJ P i (j + 1) := by
  unfold LK LJ
  rw [ovJ_succ P h]
  simp
theorem LK_succ (P : PcD) {i j k : Nat} (h : j + 1 ≤ k) : LK P i j (k + 1) = LK P i j k ++ [pK P i j k] := by
  unfold LK
  rw [ovK_succ P h]
  simp
theorem pre_1 (P : PcD) {i j : Nat} (hi : i < P.n) (h : i + 1 ≤ j) (hj : j < P.n) : Pre (LJ P i j ++ [pJ1 P i j]) (ovl P) := by
  have := pre_J' P hi h hj (x := [pJ1 P i j]) ⟨_, rfl⟩
  simpa [LJ] using this
theorem pre_2 (P : PcD) {i j : Nat} (hi : i < P.n) (h : i + 1 ≤ j) (hj : j < P.n) : Pre (LJ P i j ++ [pJ1 P i j] ++ [pJ2 P i j]) (ovl P) := by
  have := pre_J' P hi h hj (x := [pJ1 P i j, pJ2 P i j]) ⟨_, rfl⟩
  simpa [LJ] using this
theorem pre_3 (P : PcD) {i j k : Nat} (hi : i < P.n) (h : i + 1 ≤ j) (hj : j < P.n) (hk : j + 1 ≤ k) (hkn : k < P.n) : Pre (LK P i j k ++ [pK P i j k]) (ovl P) := by
  rw [← LK_succ P hk]
  have := pre_J' P hi h hj (x := [pJ1 P i j, pJ2 P i j] ++ ovK P i j (k + 1)) (Pre.app _ (pre_ovK P (by omega)))
  simpa [LJ, LK] using this

theorem KC.alloc {w w' : World} (h : KC w w') (o : Obj) : KC w (w'.alloc o) := h.trans (KC.of_below ((Below.refl _ _).alloc (Nat.le_refl _) _))
theorem KC.below {w w' w'' : World} (h : KC w w') (hb : Below w'.heap.size w' w'') : KC w w'' := h.trans (KC.of_below hb)

def encP (p : List Int × List Int) : Array Value := #[.agg (vec p.1).toArray, .agg (vec p.2).toArray]
end Go.Proofs
