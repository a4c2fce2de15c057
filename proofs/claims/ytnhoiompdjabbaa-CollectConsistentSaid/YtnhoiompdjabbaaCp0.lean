/- Operations of copied; a frame behind a region with slots at any places. -/
import Derived.Test.YtnhoiompdjabbaaOwn
import Derived.Test.YtnhoiompdjabbaaInv3
import Derived.Maps.AppendAt
import Derived.Deep.AppendLies
namespace Go.Proofs
open Go.RowKit Go.Proofs.Pc

theorem SameM.frame {a0 a : Act} {dm : Nat → Nat} {N : Nat} (h : SameM a0 dm N a) (n : Nat) (hn : a0.tmps.size = n) :
    a = { tmps := ((List.range n).map fun t => if (List.range N).any (fun i => dm i == t) then a.tmps.getD t undef else a0.tmps.getD t undef).toArray, defers := a0.defers } := by
  obtain ⟨t, d⟩ := a
  have hd := h.defers
  have hs := h.size
  have ho := h.out
  simp only at hd hs ho
  subst hd
  congr 1
  apply Array.ext'
  apply List.ext_getElem?
  intro i
  show t.toList[i]? = (List.map _ (List.range n))[i]?
  rw [List.getElem?_map]
  rcases Nat.lt_or_ge i n with hi | hi
  · rw [List.getElem?_range hi]
    have hti : i < t.size := by omega
    simp only [Option.map_some]
    have hg : t.toList[i]? = some (t.getD i undef) := by simp [Array.getD_eq_getD_getElem?, hti]
    rw [hg]
    refine congrArg some ?_
    by_cases hx : (List.range N).any (fun q => dm q == i) = true
    · rw [if_pos hx]
    · rw [if_neg hx]
      refine ho i (fun j hj e => hx ?_)
      rw [List.any_eq_true]
      exact ⟨j, by simpa using hj, by simpa using e⟩
  · rw [List.getElem?_eq_none (by simpa using (by omega : t.size ≤ i)), List.getElem?_eq_none (by simpa using hi)]
    rfl

theorem SameM.frameV {a0 a : Act} {dm : Nat → Nat} {N : Nat} (h : SameM a0 dm N a) (n : Nat) (hn : a0.tmps.size = n) :
    ∃ vs : Nat → Value, (∀ t, vs t = a.tmps.getD t undef) ∧ a = { tmps := ((List.range n).map fun t => if (List.range N).any (fun i => dm i == t) then vs t else a0.tmps.toList.getD t undef).toArray, defers := a0.defers } := by
  refine ⟨fun t => a.tmps.getD t undef, fun _ => rfl, (h.frame n hn).trans ?_⟩
  have : ∀ t, a0.tmps.getD t undef = a0.tmps.toList.getD t undef := fun t => by simp [Array.getD_eq_getD_getElem?, List.getD_eq_getElem?_getD]
  simp only [this]
theorem inj_of {dm : Nat → Nat} {N : Nat} (h : (List.range N).all (fun i => (List.range N).all fun j => (dm i != dm j) || (i == j)) = true) : ∀ i j, i < N → j < N → dm i = dm j → i = j := fun i j hi hj e => by
  rw [List.all_eq_true] at h
  have h1 := h i (by simpa using hi)
  rw [List.all_eq_true] at h1
  have h2 := h1 j (by simpa using hj)
  simpa [e] using h2
theorem lt_of {dm : Nat → Nat} {N n : Nat} (h : (List.range N).all (fun i => decide (dm i < n)) = true) : ∀ i, i < N → dm i < n := fun i hi => by
  rw [List.all_eq_true] at h
  simpa using h i (by simpa using hi)

section
variable {o : Oper} {a : Act} {w w' : World} {n : Nat} {next : Act → World → Prop} {Q : Exit → Act → World → Prop} {v : Value}
theorem wpW_skip (hrun : (execOp a.eval o).run Try.prog w = .ok .skip w') (h : next (a.put o.dst undef) w') : o.wpIn Fence.wide n Try.prog a w next Q :=
  ⟨fun _ _ => trivial, by rw [Fence.wide_round, Oper.semAt_none, hrun]; exact h⟩
theorem r_call1 {f : FuncId} (x : Operand) (u : Value) (T : Array TypeId) (ho : o.op = .call { callee := .value (.func f), args := #[x], argTypes := T }) (hx : a.eval x = u)
    (he : ∀ args w, (callFunc f args).run Try.prog w = .ok (.enter f args) w) : (execOp a.eval o).run Try.prog w = .ok (.enter f #[u]) w := by
  have hf : a.eval (.func f) = .func (.func f) #[] #[] := rfl
  unfold execOp
  simp only [ho, resolve, List.map_toArray, List.map_cons, List.map_nil, hx, hf]
  simp [go_sem, he]
theorem agg22 (w : World) : (isAgg 22).run Try.prog w = .ok false w := by kernel_rfl
theorem agg23 (w : World) : (isAgg 23).run Try.prog w = .ok false w := by kernel_rfl
theorem agg24 (w : World) : (isAgg 24).run Try.prog w = .ok false w := by kernel_rfl
theorem r_load1 (T : TypeId) (hT : ∀ w, (isAgg T).run Try.prog w = .ok false w) (x : Operand) (ad : Addr) (ho : o.op = .load T x) (hx : a.eval x = .pointer (some ad)) (hc : w.cell? ad = some v) : (execOp a.eval o).run Try.prog w = .ok (.value v) w := by
  unfold execOp
  simp only [ho, hx, Instr.loadAt, Instr.sureAddr, loadVar, Sem.run_bind, Sem.run_pure, Result.andThen_ok, hT]
  simp [go_sem, hc]
theorem fld26_0 (b : Nat) (w : World) : (Instr.fieldAt 26 (.pointer (some ⟨b, 0, none⟩)) 0).run Try.prog w = .ok (.pointer (some ⟨b, 0, none⟩)) w := by kernel_rfl
theorem fld26_1 (b : Nat) (w : World) : (Instr.fieldAt 26 (.pointer (some ⟨b, 0, none⟩)) 1).run Try.prog w = .ok (.pointer (some ⟨b, 1, none⟩)) w := by kernel_rfl
theorem fld26_2 (b : Nat) (w : World) : (Instr.fieldAt 26 (.pointer (some ⟨b, 0, none⟩)) 2).run Try.prog w = .ok (.pointer (some ⟨b, 2, none⟩)) w := by kernel_rfl
theorem build26 (A B : Option Addr) (n m c d : Nat) (w : World) : (Instr.build 26 #[(0, .slice A n c), (1, .slice B m d)]).run Try.prog w = .ok (.agg #[.slice A n c, .slice B m d, .slice none 0 0]) w := by kernel_rfl
theorem alloc26 (w : World) : (Instr.alloc 26 true (.tuple #[])).run Try.prog w = .ok (.pointer (some ⟨w.heap.size, 0, none⟩)) (w.alloc (.cells #[.slice none 0 0, .slice none 0 0, .slice none 0 0] 26)) := by kernel_rfl
theorem bslice24 (A : Option Addr) (n c : Nat) (w : World) : (Instr.buildSlice 24 1 #[(0, .slice A n c)]).run Try.prog w = .ok (.slice (some ⟨w.heap.size, 0, none⟩) 1 1) (w.alloc (.cells #[.slice A n c] 23)) := by kernel_rfl
theorem r_bld26 (x y : Operand) (A B : Option Addr) (n m c d : Nat) (ho : o.op = .build 26 #[(0, x), (1, y)]) (hx : a.eval x = .slice A n c) (hy : a.eval y = .slice B m d) :
    (execOp a.eval o).run Try.prog w = .ok (.value (.agg #[.slice A n c, .slice B m d, .slice none 0 0])) w := by
  have hb := build26 A B n m c d w
  unfold execOp
  simp only [ho, List.map_toArray, List.map_cons, List.map_nil, hx, hy, Sem.run_bind, hb, Result.andThen_ok]
  rfl
theorem r_alloc26 (ho : o.op = .alloc 26) : (execOp a.eval o).run Try.prog w = .ok (.value (.pointer (some ⟨w.heap.size, 0, none⟩))) (w.alloc (.cells #[.slice none 0 0, .slice none 0 0, .slice none 0 0] 26)) := by
  have hb := alloc26 w
  unfold execOp
  simp only [ho, Sem.run_bind, hb, Result.andThen_ok]
  rfl
theorem r_bs24 (x : Operand) (A : Option Addr) (m c : Nat) (ho : o.op = .buildSlice 24 1 #[(0, x)]) (hx : a.eval x = .slice A m c) :
    (execOp a.eval o).run Try.prog w = .ok (.value (.slice (some ⟨w.heap.size, 0, none⟩) 1 1)) (w.alloc (.cells #[.slice A m c] 23)) := by
  have hb := bslice24 A m c w
  unfold execOp
  simp only [ho, List.map_toArray, List.map_cons, List.map_nil, hx, Sem.run_bind, hb, Result.andThen_ok]
  rfl
theorem r_store26 (x y : Operand) (ho : o.op = .store 26 x y) (g : Nat) (old c' : Array Value) (hx : a.eval x = .pointer (some ⟨g, 0, none⟩)) (hy : a.eval y = .agg c') (hg : w.heap[g]? = some (.cells old 26 (0, 0)))
    (hi : (Try.prog.info? 26).map (·.size) = some c'.size) (hoo : old.size = c'.size) (h1 : c'.all (·.oneCell') = true) : (execOp a.eval o).run Try.prog w = .ok .skip (w.setRow g c') := by
  unfold execOp
  simp only [ho, hx, hy, Instr.storeAt, Instr.sureAddr, Sem.run_bind, Sem.run_pure, Result.andThen_ok, run_storeVar_row w g 26 26 old c' hg hi hoo h1]
theorem size24 (w : World) : (sizeOf 24).run Try.prog w = .ok 1 w := by kernel_rfl
theorem r_store24 (x y : Operand) (b j : Nat) (A : Option Addr) (m c : Nat) (ho : o.op = .store 24 x y) (hx : a.eval x = .pointer (some ⟨b, j, none⟩)) (hy : a.eval y = .slice A m c) (hc : (w.cell? ⟨b, j, none⟩).isSome = true) (hf : w.frozen? ⟨b, j, none⟩ = false) :
    (execOp a.eval o).run Try.prog w = .ok .skip (w.setCell ⟨b, j, none⟩ (.slice A m c)) := by
  unfold execOp
  simp only [ho, hx, hy, Instr.storeAt, Instr.sureAddr, storeVar, Sem.run_bind, Sem.run_pure, Result.andThen_ok, size24]
  obtain ⟨u, hu⟩ := Option.isSome_iff_exists.1 hc
  simp [go_sem, hu, hf]
theorem r_app (s x : Operand) (t : TypeId) {sv xv v' : Value} (ho : o.op = .call { callee := .builtin .append, args := #[s, x], argTypes := #[t, t] }) (hs : a.eval s = sv) (hx : a.eval x = xv)
    (hr : (Builtin.append_ #[t, t] o.type #[sv, xv]).run Try.prog w = .ok v' w') : (execOp a.eval o).run Try.prog w = .ok (.value v') w' := by
  unfold execOp
  simp only [ho, resolve, invoke, builtin, Sem.run_bind, Sem.run_pure, Result.andThen_ok, List.map_toArray, List.map_cons, List.map_nil, hs, hx, hr]
end
section
variable {o : Oper} {rest : List Oper} {ops : Array Oper} {a : Act} {w w' : World} {n : Nat} {Q : Exit → Act → World → Prop}
theorem wpListIn_selStore (T : TypeId) (x y : Nat) {F : Fence} {t : TypeId} {p : String} {af : Array Edge} {g : Option (Nat × Bool)} (h : wpListIn F n Try.prog ops Q (⟨none, .store T (.tmp x) (.tmp y), t, p, af, g⟩ :: rest) a w) : wpListIn F n Try.prog ops Q (⟨none, .store T (.tmp x) (.tmp y), t, p, af, g⟩ :: rest) a w := h
theorem wpListIn_skip (hg : o.guard = none) (hrun : (execOp a.eval o).run Try.prog w = .ok .skip w') (h : wpListIn Fence.wide n Try.prog ops Q rest (a.put o.dst undef) w') : wpListIn Fence.wide n Try.prog ops Q (o :: rest) a w :=
  wpListIn_plain hg fun _ hK => ⟨fun _ _ => trivial, by
    rw [Fence.wide_round, Oper.semAt_none, hrun]
    exact hK _ _ h⟩
end
theorem info23 : (Try.prog.info? 23).map (fun i => (i.zero, i.size, i.bytes)) = some (some (.slice none 0 0), 1, 24) := by kernel_rfl
theorem r_load26 {o : Oper} {a : Act} {w : World} (x : Operand) (b : Nat) (v0 v1 v2 : Value) (ho : o.op = .load 26 x) (hx : a.eval x = .pointer (some ⟨b, 0, none⟩)) (hc : w.heap[b]? = some (.cells #[v0, v1, v2] 26 (0, 0))) : (execOp a.eval o).run Try.prog w = .ok (.value (.agg #[v0, v1, v2])) w := by
  have hr : w.rangeAt b 0 [v0, v1, v2] := fun j v hj => by rw [cell_of_row _ _ _ _ _ _ hc, Nat.zero_add]; simpa using hj
  unfold execOp
  simp only [ho, hx, Sem.run_bind, run_loadAt_mid (P := Try.prog) w b 0 26 [v0, v1, v2] _ hr Try.underlying26 rfl (by kernel_rfl), Result.andThen_ok]
  rfl
theorem info26s : (Try.prog.info? 26).map (·.size) = some 3 := by kernel_rfl
theorem call84 (args : Array Value) (w : World) : (callFunc 84 args).run Try.prog w = .ok (.enter 84 args) w := enters_of Try.func84 (by kernel_rfl) rfl args w
theorem call85 (args : Array Value) (w : World) : (callFunc 85 args).run Try.prog w = .ok (.enter 85 args) w := enters_of Try.func85 (by kernel_rfl) rfl args w
end Go.Proofs
