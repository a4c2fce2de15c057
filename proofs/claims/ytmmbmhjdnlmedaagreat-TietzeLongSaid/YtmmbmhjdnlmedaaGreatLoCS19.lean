/- tietze.Simplify: the lists of the new state as they are laid. -/
import Derived.Test.YtmmbmhjdnlmedaaGreatLoCS18
import Derived.Test.YtmmbmhjdnlmedaaGreatLoCS10
namespace Go.Proofs
open Go.RowKit Go.Shelf Go.Lib Go.Sort Go.Proofs.Ct Go.Proofs.Tz Go.Maps
/-- words and numbers of the call's own, side by side -/
structure LS (B : Nat) (F : Nat → Prop) (W : World) (vi vb : Value) (rows : List (List Int)) (nums : List Int) : Prop where
  out : OwnT 36 B F W vi rows
  fs : ∀ k, F k → B ≤ k ∧ k < W.heap.size ∧ ∃ C, W.heap[k]? = some (.cells C 3 (0, 0))
  row : OwnI B W vb nums
  ap : ∀ r, vb.ownBlock = some r → ¬ F r
section
variable {B : Nat} {F : Nat → Prop} {W W' : World} {vi vb : Value} {rows : List (List Int)} {nums : List Int}
theorem LS.nil (B : Nat) (W : World) : LS B (fun _ => False) W (.slice none 0 0) (.slice none 0 0) [] [] :=
  ⟨⟨[], World.ownsRow_nil _ _ _ _, RowsF.nil _ _⟩, fun k hk => hk.elim, World.ownsRow_nil _ _ _ _, fun r hr => by cases hr⟩
theorem LS.keep (h : LS B F W vi vb rows nums) (hs : W.heap.size ≤ W'.heap.size) (hk : ∀ (k : Nat) (C : Array Value) (t : TypeId), W.heap[k]? = some (Obj.cells C t (0, 0)) → t = 3 ∨ t = 36 → W'.heap[k]? = W.heap[k]?) : LS B F W' vi vb rows nums := by
  refine ⟨h.out.keep (fun r hr => ?_) (fun r hr => ?_) fun _ h => h, fun k hk' => ?_, owns_keep h.row fun r hr => ?_, h.ap⟩
  · obtain ⟨-, C, hC⟩ := h.out.block r hr
    exact hk r C 36 hC (.inr rfl)
  · obtain ⟨-, -, C, hC⟩ := h.fs r hr
    exact hk r C 3 hC (.inl rfl)
  · obtain ⟨h1, h2, C, hC⟩ := h.fs k hk'
    exact ⟨h1, Nat.lt_of_lt_of_le h2 hs, C, (hk k C 3 hC (.inl rfl)).trans hC⟩
  · obtain ⟨-, C, hC⟩ := owns_block h.row r hr
    exact hk r C 3 hC (.inl rfl)
theorem LS.below (h : LS B F W vi vb rows nums) (hb : Below W.heap.size W W') : LS B F W' vi vb rows nums :=
  h.keep hb.size fun _ _ _ hC _ => hb.block _ (Array.getElem?_eq_some_iff.1 hC).1
theorem LS.box (h : LS B F W vi vb rows nums) {xb : Nat} {cs : Array Value} (hx : W.heap[xb]? = some (.cells cs 68 (0, 0))) (hg : W.grownBy W' (some xb)) : LS B F W' vi vb rows nums :=
  h.keep hg.size fun k C t hC ht => hg.block k (Array.getElem?_eq_some_iff.1 hC).1 fun e => by
    obtain rfl := Option.some.inj e
    rw [hx] at hC
    injection hC with h5
    injection h5 with _ h6 _
    rcases ht with rfl | rfl <;> exact absurd h6 (by decide)
/-- a word joins the words -/
theorem LS.pushRow (h : LS B F W vi vb rows nums) {u : Value} {b : Nat} {z : Int} (hu : Sl W u [.slice (some ⟨b, 0, none⟩) 1 1]) (hw : W.heap[b]? = some (.cells #[.int .i64 z] 3 (0, 0))) (hb : B ≤ b) (hne : vb.ownBlock ≠ some b) (hz : -9223372036854775808 ≤ z ∧ z ≤ 9223372036854775807) (hl : rows.length ≤ 1000000) (hB : B ≤ W.heap.size) :
    ∃ A' c' w', (Builtin.append_ #[22, 22] 22 #[vi, u]).run Tryz.prog W = .ok (.slice A' (rows.length + 1) c') w' ∧ LS B (fun k => F k ∨ k = b) w' (.slice A' (rows.length + 1) c') vb (rows ++ [[z]]) nums ∧ W.grownBy w' vi.ownBlock := by
  obtain ⟨vals, ho, hr⟩ := h.out
  obtain ⟨A', c', w', hrun, ho', hg, hw'⟩ := run_app (ty := 22) Tryz.underlying22 info25p rfl (by omega) W B vi rows.length vals ho u _ hu (by simp [Value.oneCell']) hl (by simp) hB
  have hbl := (Array.getElem?_eq_some_iff.1 hw).1
  have hnew : w'.heap[b]? = some (.cells #[.int .i64 z] 3 (0, 0)) := (hg.block b hbl (fun e => by
    obtain ⟨-, C, hC⟩ := h.out.block b e.symm
    rw [hw] at hC
    injection hC with h5
    injection h5 with _ h6 _
    exact absurd h6 (by decide))).trans hw
  have hFg : ∀ r, F r → r < W.heap.size ∧ vi.ownBlock ≠ some r := fun r hr => by
    obtain ⟨-, h2, C, hC⟩ := h.fs r hr
    refine ⟨h2, fun e => ?_⟩
    obtain ⟨-, C', hC'⟩ := h.out.block r e
    rw [hC] at hC'
    injection hC' with h5
    injection h5 with _ h6 _
    exact absurd h6 (by decide)
  refine ⟨A', c', w', hrun, ⟨⟨vals ++ [.slice (some ⟨b, 0, none⟩) 1 1], ?_, ?_⟩, fun k hk => ?_, owns_keep h.row fun r hr' => ?_, fun r hr' hF => ?_⟩, hg⟩
  · rw [List.length_append]; exact ho'
  · have h1 := (hr.keep (Ag.grown hg hFg) (G := fun k => F k ∨ k = b) fun k hk => .inl hk)
    refine h1.snoc fun w'' hag => ?_
    have hb'' : w''.heap[b]? = some (.cells #[.int .i64 z] 3 (0, 0)) := (hag b (.inr rfl)).trans hnew
    have hf : Fits [z] := fun y hy => by rw [List.mem_singleton.1 hy]; exact hz
    exact ints_blk (xs := [z]) hb'' hf rfl (by omega)
  · rcases hk with hk | rfl
    · obtain ⟨h1, h2, C, hC⟩ := h.fs k hk
      exact ⟨h1, Nat.lt_of_lt_of_le h2 hg.size, C, (hg.block k h2 (hFg k hk).2.symm).trans hC⟩
    · exact ⟨hb, Nat.lt_of_lt_of_le hbl hg.size, _, hnew⟩
  · obtain ⟨-, C, hC⟩ := owns_block h.row r hr'
    refine hg.block r (Array.getElem?_eq_some_iff.1 hC).1 fun e => ?_
    obtain ⟨-, C', hC'⟩ := h.out.block r e.symm
    rw [hC] at hC'
    injection hC' with h5
    injection h5 with _ h6 _
    exact absurd h6 (by decide)
  · rcases hF with hF | rfl
    · exact h.ap r hr' hF
    · exact hne hr'
/-- a number joins the numbers -/
theorem LS.pushNum (h : LS B F W vi vb rows nums) {u : Value} {z : Int} (hu : IntsAt W u [z]) (hl : nums.length ≤ 1000000) (hB : B ≤ W.heap.size) :
    ∃ A' c' w', (Builtin.append_ #[35, 35] 35 #[vb, u]).run Tryz.prog W = .ok (.slice A' (nums.length + 1) c') w' ∧ LS B F w' vi (.slice A' (nums.length + 1) c') rows (nums ++ [z]) ∧ W.grownBy w' vb.ownBlock := by
  obtain ⟨A', c', w', hrun, ho', hg, hw'⟩ := app_ints 35 35 Tryz.underlying35 W B vb nums h.row u [z] hu hl (by simp) hB
  rw [List.length_append, List.length_singleton] at hrun ho' hw'
  have hFg : ∀ r, F r → r < W.heap.size ∧ vb.ownBlock ≠ some r := fun r hr => ⟨(h.fs r hr).2.1, fun e => h.ap r e hr⟩
  refine ⟨A', c', w', hrun, ⟨h.out.keep (fun r hr => ?_) (Ag.grown hg hFg) fun _ h => h, fun k hk => ?_, ho', fun r hr hF => ?_⟩, hg⟩
  · obtain ⟨-, C, hC⟩ := h.out.block r hr
    refine hg.block r (Array.getElem?_eq_some_iff.1 hC).1 fun e => ?_
    obtain ⟨-, C', hC'⟩ := owns_block h.row r e.symm
    rw [hC] at hC'
    injection hC' with h5
    injection h5 with _ h6 _
    exact absurd h6 (by decide)
  · obtain ⟨h1, h2, C, hC⟩ := h.fs k hk
    exact ⟨h1, Nat.lt_of_lt_of_le h2 hg.size, C, (hg.block k h2 (hFg k hk).2.symm).trans hC⟩
  · rcases hw' with e | ⟨q, e, hq⟩
    · rw [e] at hr
      exact h.ap r hr hF
    · rw [e] at hr
      obtain rfl := Option.some.inj hr
      exact absurd (h.fs _ hF).2.1 (by omega)
end
theorem build65 (g : Int) (A : Option Addr) (n c : Nat) (w : World) : (Instr.build 68 #[(0, .agg #[.int .i64 g, .slice A n c])]).run Tryz.prog w = .ok (.agg #[.int .i64 g, .slice A n c, .slice none 0 0, .slice none 0 0, .int .i64 0]) w := by kernel_rfl
theorem bs24_1 (z : Int) (w : World) : (Instr.buildSlice 36 1 #[(0, .int .i64 z)]).run Tryz.prog w = .ok (.slice (some ⟨w.heap.size, 0, none⟩) 1 1) (w.alloc (.cells #[.int .i64 z] 3)) := by kernel_rfl
theorem bs23_1 (z : Int) (w : World) : (Instr.buildSlice 35 1 #[(0, .int .i64 z)]).run Tryz.prog w = .ok (.slice (some ⟨w.heap.size, 0, none⟩) 1 1) (w.alloc (.cells #[.int .i64 z] 3)) := by kernel_rfl
theorem bs25_1' (A : Option Addr) (n c : Nat) (w : World) : (Instr.buildSlice 22 1 #[(0, .slice A n c)]).run Tryz.prog w = .ok (.slice (some ⟨w.heap.size, 0, none⟩) 1 1) (w.alloc (.cells #[.slice A n c] 36)) := by kernel_rfl
section
variable {o : Oper} {a : Act} {w w' : World}
theorem r_bs24_1 (x : Operand) (z : Int) (ho : o.op = .buildSlice 36 1 #[(0, x)]) (hx : a.eval x = .int .i64 z) : (execOp a.eval o).run Tryz.prog w = .ok (.value (.slice (some ⟨w.heap.size, 0, none⟩) 1 1)) (w.alloc (.cells #[.int .i64 z] 3)) := by
  have hb := bs24_1 z w
  unfold execOp
  simp only [ho, List.map_toArray, List.map_cons, List.map_nil, hx, Sem.run_bind, hb, Result.andThen_ok]
  rfl
theorem r_bs23_1 (x : Operand) (z : Int) (ho : o.op = .buildSlice 35 1 #[(0, x)]) (hx : a.eval x = .int .i64 z) : (execOp a.eval o).run Tryz.prog w = .ok (.value (.slice (some ⟨w.heap.size, 0, none⟩) 1 1)) (w.alloc (.cells #[.int .i64 z] 3)) := by
  have hb := bs23_1 z w
  unfold execOp
  simp only [ho, List.map_toArray, List.map_cons, List.map_nil, hx, Sem.run_bind, hb, Result.andThen_ok]
  rfl
theorem r_bs25_1 (x : Operand) (A : Option Addr) (n c : Nat) (ho : o.op = .buildSlice 22 1 #[(0, x)]) (hx : a.eval x = .slice A n c) : (execOp a.eval o).run Tryz.prog w = .ok (.value (.slice (some ⟨w.heap.size, 0, none⟩) 1 1)) (w.alloc (.cells #[.slice A n c] 36)) := by
  have hb := bs25_1' A n c w
  unfold execOp
  simp only [ho, List.map_toArray, List.map_cons, List.map_nil, hx, Sem.run_bind, hb, Result.andThen_ok]
  rfl
end
end Go.Proofs
