/- One operation at a time: what it runs to. For the slot obligations of a region that draws its order (Fence.wide). -/
import Derived.Test.YtnhoiompdjabbaaX2
import Derived.Test.YtnhoiompdjabbaaInv
import Derived.RangeFuncFrom
namespace Go.Proofs
open Go.RowKit Go.Proofs.Pc

section
variable {o : Oper} {a : Act} {w w' : World} {n : Nat} {next : Act → World → Prop} {Q : Exit → Act → World → Prop} {v : Value}

theorem wpW_val (hrun : (execOp a.eval o).run Try.prog w = .ok (.value v) w') (h : next (a.put o.dst v) w') : o.wpIn Fence.wide n Try.prog a w next Q :=
  ⟨fun _ _ => trivial, by rw [Fence.wide_round, Oper.semAt_none, hrun]; exact h⟩
theorem wpW_call {f : FuncId} {args : Array Value} {R : Value → World → Prop} (hrun : (execOp a.eval o).run Try.prog w = .ok (.enter f args) w')
    (hc : Calls Try.prog f args w' fun e w'' => ∃ v, e = .returned v ∧ R v w'') (h : ∀ v w'', R v w'' → next (a.put o.dst v) w'') : o.wpIn Fence.wide n Try.prog a w next Q :=
  ⟨fun _ _ => trivial, by
    rw [Fence.wide_round, Oper.semAt_none, hrun]
    refine ⟨fun hh => by simp [Fence.wide] at hh, callsIn_wide.2 (hc.mono ?_)⟩
    rintro e w'' ⟨v, rfl, hR⟩
    exact h v w'' hR⟩

theorem r_move (x : Operand) (ho : o.op = .move x) (hx : a.eval x = v) : (execOp a.eval o).run Try.prog w = .ok (.value v) w := by
  unfold execOp; simp only [ho, hx]; rfl
theorem r_nil (x : Operand) (ad : Addr) (ho : o.op = .nilCheck x) (hx : a.eval x = .pointer (some ad)) : (execOp a.eval o).run Try.prog w = .ok (.value (.pointer (some ad))) w := by
  unfold execOp; simp only [ho, hx]; rfl
theorem agg62 (w : World) : (isAgg 62).run Try.prog w = .ok false w := by kernel_rfl
theorem agg3 (w : World) : (isAgg 3).run Try.prog w = .ok false w := by kernel_rfl
theorem r_load62 (x : Operand) (ad : Addr) (ho : o.op = .load 62 x) (hx : a.eval x = .pointer (some ad)) (hc : w.cell? ad = some v) : (execOp a.eval o).run Try.prog w = .ok (.value v) w := by
  unfold execOp
  simp only [ho, hx, Instr.loadAt, Instr.sureAddr, loadVar, Sem.run_bind, Sem.run_pure, Result.andThen_ok, agg62]
  simp [go_sem, hc]
theorem r_load3 (x : Operand) (ad : Addr) (ho : o.op = .load 3 x) (hx : a.eval x = .pointer (some ad)) (hc : w.cell? ad = some v) : (execOp a.eval o).run Try.prog w = .ok (.value v) w := by
  unfold execOp
  simp only [ho, hx, Instr.loadAt, Instr.sureAddr, loadVar, Sem.run_bind, Sem.run_pure, Result.andThen_ok, agg3]
  simp [go_sem, hc]
theorem r_load82 (x : Operand) (b k : Nat) (xs : List Int) (ho : o.op = .load 82 x) (hx : a.eval x = .pointer (some ⟨b, k, none⟩)) (hc : w.rangeAt b k (vec xs)) : (execOp a.eval o).run Try.prog w = .ok (.value (.agg (vec xs).toArray)) w := by
  unfold execOp
  simp only [ho, hx, Sem.run_bind, run_loadAt_mid (P := Try.prog) w b k 82 (vec xs) _ hc Try.underlying82 rfl (by rw [length_vec]; exact info82), Result.andThen_ok]
  rfl
theorem fld86_1 (b k : Nat) (w : World) : (Instr.fieldAt 86 (.pointer (some ⟨b, k, none⟩)) 1).run Try.prog w = .ok (.pointer (some ⟨b, k + 1, none⟩)) w := by kernel_rfl
theorem fld86_2 (b k : Nat) (w : World) : (Instr.fieldAt 86 (.pointer (some ⟨b, k, none⟩)) 2).run Try.prog w = .ok (.pointer (some ⟨b, k + 13, none⟩)) w := by kernel_rfl
theorem fld113_1 (b k : Nat) (w : World) : (Instr.fieldAt 113 (.pointer (some ⟨b, k, none⟩)) 1).run Try.prog w = .ok (.pointer (some ⟨b, k + 1, none⟩)) w := by kernel_rfl
theorem r_fld {T i : Nat} (x : Operand) (ad : Value) (ho : o.op = .fieldAddr T x i) (hx : a.eval x = ad) (hf : (Instr.fieldAt T ad i).run Try.prog w = .ok v w) : (execOp a.eval o).run Try.prog w = .ok (.value v) w := by
  unfold execOp; simp only [ho, hx, Sem.run_bind, hf, Result.andThen_ok]; rfl
theorem idx_run (T E sz len : Nat) (hu : Try.prog.underlying T = some (.array len E)) (hs : ∀ w, (sizeOf E).run Try.prog w = .ok sz w) (b k i : Nat) (hi : i < len) (w : World) :
    (Instr.indexAt T (.pointer (some ⟨b, k, none⟩)) (.int .i64 (i : Int))).run Try.prog w = .ok (.pointer (some ⟨b, k + i * sz, none⟩)) w := by
  have h1 : (0 : Int) ≤ (i : Int) ∧ (i : Int) < (len : Int) := ⟨by omega, by omega⟩
  have h2 := Addr.add_mid b k (i * sz)
  simp [Instr.indexAt, asIntOf, run_underlying hu, Instr.sureAddr, hs, h2]
  intro h
  omega
theorem r_idx {T : Nat} (x y : Operand) (ad i : Value) (ho : o.op = .indexAddr T x y) (hx : a.eval x = ad) (hy : a.eval y = i) (hf : (Instr.indexAt T ad i).run Try.prog w = .ok v w) : (execOp a.eval o).run Try.prog w = .ok (.value v) w := by
  unfold execOp; simp only [ho, hx, hy, Sem.run_bind, hf, Result.andThen_ok]; rfl
theorem r_bs2 (x y : Operand) (xs ys : List Int) (ho : o.op = .buildSlice 125 2 #[(0, x), (1, y)]) (hx : a.eval x = .agg (vec xs).toArray) (hy : a.eval y = .agg (vec ys).toArray) :
    (execOp a.eval o).run Try.prog w = .ok (.value (.slice (some ⟨w.heap.size, 0, none⟩) 2 2)) (w.alloc (.cells (vec xs ++ vec ys).toArray 82)) := by
  have hb := bslice2 xs ys w
  unfold execOp
  simp only [ho, List.map_toArray, List.map_cons, List.map_nil, hx, hy, Sem.run_bind, hb, Result.andThen_ok]
  rfl
theorem r_bs3 (x y z : Operand) (xs ys zs : List Int) (ho : o.op = .buildSlice 125 3 #[(0, x), (1, y), (2, z)]) (hx : a.eval x = .agg (vec xs).toArray) (hy : a.eval y = .agg (vec ys).toArray) (hz : a.eval z = .agg (vec zs).toArray) :
    (execOp a.eval o).run Try.prog w = .ok (.value (.slice (some ⟨w.heap.size, 0, none⟩) 3 3)) (w.alloc (.cells (vec xs ++ vec ys ++ vec zs).toArray 82)) := by
  have hb := bslice3 xs ys zs w
  unfold execOp
  simp only [ho, List.map_toArray, List.map_cons, List.map_nil, hx, hy, hz, Sem.run_bind, hb, Result.andThen_ok]
  rfl
theorem r_call2 {f : FuncId} (x y : Operand) (u v : Value) (T : Array TypeId) (ho : o.op = .call { callee := .value (.func f), args := #[x, y], argTypes := T }) (hx : a.eval x = u) (hy : a.eval y = v)
    (he : ∀ args w, (callFunc f args).run Try.prog w = .ok (.enter f args) w) : (execOp a.eval o).run Try.prog w = .ok (.enter f #[u, v]) w := by
  have hf : a.eval (.func f) = .func (.func f) #[] #[] := rfl
  unfold execOp
  simp only [ho, resolve, List.map_toArray, List.map_cons, List.map_nil, hx, hy, hf]
  simp [go_sem, he]
theorem r_sub1 (x : Operand) (m : Int) (ho : o.op = .binOp .sub 3 x (.const (.int .i64 1)) 3) (hx : a.eval x = .int .i64 m) (hm : -9223372036854775807 ≤ m ∧ m ≤ 9223372036854775807) : (execOp a.eval o).run Try.prog w = .ok (.value (.int .i64 (m - 1))) w := by
  have hwr : IntKind.i64.wrap (m - 1) = m - 1 := IntWalk.i64_in _ (by omega)
  have hc : a.eval (.const (.int .i64 1)) = .int .i64 1 := rfl
  unfold execOp
  simp only [ho, hx, hc]
  simp [go_sem, hwr]
theorem r_yield {l : Nat} {fn : FuncId} {tmps : Array Value} {assign body : Code} (f x y : Operand) (u v : Value) (T : Array TypeId) (ho : o.op = .call { callee := .value f, args := #[x, y], argTypes := T }) (hf : a.eval f = .func (.yield l) #[] #[]) (hx : a.eval x = u) (hy : a.eval y = v)
    (hr : (Instr.yield l #[u, v]).run Try.prog w = .ok (.round l fn tmps assign body) w) : (execOp a.eval o).run Try.prog w = .ok (.round l fn tmps assign body) w := by
  unfold execOp
  simp only [ho, resolve, List.map_toArray, List.map_cons, List.map_nil, hf, hx, hy]
  simp [go_sem, hr]
theorem wpW_yield {l : Nat} {args : Array Value} {R : Ending → World → Prop} (hy : YieldAt Fence.wide (n - 1) Try.prog l args w R)
    (hrun : ∀ fn tmps assign body, (Instr.yield l args).run Try.prog w = .ok (.round l fn tmps assign body) w → (execOp a.eval o).run Try.prog w = .ok (.round l fn tmps assign body) w)
    (hR : ∀ e w', R e w' → ∃ b, e = .returned (.bool b) ∧ next (a.put o.dst (.bool b)) w') : o.wpIn Fence.wide n Try.prog a w next Q := by
  obtain ⟨fn, tmps, assign, body, h1, h2⟩ := hy
  refine ⟨fun _ _ => trivial, ?_⟩
  rw [Fence.wide_round, Oper.semAt_none, hrun _ _ _ _ h1]
  refine ⟨fun hh => by simp [Fence.wide] at hh, h2.mono ?_⟩
  intro e w' hw
  obtain ⟨b, rfl, hn⟩ := hR e w' hw
  exact hn
theorem r_not (x : Operand) (b : Bool) (ho : o.op = .unOp .not 4 x) (hx : a.eval x = .bool b) : (execOp a.eval o).run Try.prog w = .ok (.value (.bool !b)) w := by
  unfold execOp; simp only [ho, hx]; rfl
end

/-- The frame behind a region, written out. -/
theorem Same.frame {a0 a : Act} {lo N : Nat} (h : Same a0 lo N a) (hsz : lo + N ≤ a0.tmps.size) :
    a = { tmps := (a0.tmps.toList.take lo ++ (List.range N).map (fun i => a.tmps.getD (lo + i) undef) ++ a0.tmps.toList.drop (lo + N)).toArray, defers := a0.defers } := by
  obtain ⟨t, d⟩ := a
  have hd := h.defers
  have hs := h.size
  simp only at hd hs
  subst hd
  congr 1
  apply Array.ext'
  apply List.ext_getElem?
  intro k
  have hg : ∀ j, j < t.size → t.toList[j]? = some (t.getD j undef) := fun j hj => by simp [Array.getD, hj]
  have hg0 : ∀ j, j < a0.tmps.size → a0.tmps.toList[j]? = some (a0.tmps.getD j undef) := fun j hj => by simp [Array.getD, hj]
  rcases Nat.lt_or_ge k t.size with hk | hk
  · rw [hg k hk]
    rcases Nat.lt_or_ge k lo with h1 | h1
    · rw [List.getElem?_append_left (by simp; omega), List.getElem?_append_left (by simp; omega), List.getElem?_take, if_pos h1, hg0 k (by omega), h.out k (.inl h1)]
    · rcases Nat.lt_or_ge k (lo + N) with h2 | h2
      · rw [List.getElem?_append_left (by simp; omega), List.getElem?_append_right (by simp; omega)]
        have e : min lo a0.tmps.size = lo := by omega
        simp [e, List.getElem?_map, List.getElem?_range (show k - lo < N by omega), show lo + (k - lo) = k by omega]
      · rw [List.getElem?_append_right (by simp; omega)]
        have e : min lo a0.tmps.size = lo := by omega
        simp only [List.length_append, List.length_take, List.length_map, List.length_range, Array.length_toList, e, List.getElem?_drop]
        rw [show lo + N + (k - (lo + N)) = k by omega, hg0 k (by omega), h.out k (.inr h2)]
  · rw [List.getElem?_eq_none (by simpa using hk), List.getElem?_eq_none (by simp; omega)]
end Go.Proofs
