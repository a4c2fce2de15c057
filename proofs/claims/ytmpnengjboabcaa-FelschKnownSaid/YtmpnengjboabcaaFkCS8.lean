/- Operations that make or grow a list, one at a time; what stands while a row joins; (*coset.state).add; The reference's Add: what it meets; (*coset.state).scan; The reference's Scan; (*coset.state).fill; (*coset.state).run; The reference's run; (*coset.state).table; coset.Enumerate: its results' cells, and the closure that it defers; coset.Enumerate: what it answers, and how its results are read; The reference's Begin and Given; coset.Enumerate; The reference's Enumerate; The walk of RewriteKnown; Ways of words; what was scanned is closed; What an enumeration ends with, plainly: relators are closed everywhere, the subgroup's words at 0; the table of the living. -/
import Derived.Test.YtmpnengjboabcaaFkCS7
import Derived.Deep.CutBlock
import Derived.Deep.LoopGhost
import Derived.Defers
import Derived.Recover
import Derived.Test.YtmpnengjboabcaaFkCS6
import Derived.Test.YtmpnengjboabcaaFkCS2
namespace Go.Proofs
open Go.RowKit Go.Shelf Go.Proofs.Ct Go.Maps
theorem bs24 (x : Int) (w : World) : (Instr.buildSlice 24 1 #[(0, .int .i64 x)]).run Try.prog w = .ok (.slice (some ⟨w.heap.size, 0, none⟩) 1 1) (w.alloc (.cells #[.int .i64 x] 3)) := by kernel_rfl
theorem bs22 (A : Option Addr) (m c : Nat) (w : World) : (Instr.buildSlice 22 1 #[(0, .slice A m c)]).run Try.prog w = .ok (.slice (some ⟨w.heap.size, 0, none⟩) 1 1) (w.alloc (.cells #[.slice A m c] 24)) := by kernel_rfl
theorem call148 (args : Array Value) (w : World) : (callFunc 209 args).run Try.prog w = .ok (.enter 209 args) w := enters_of Try.func209 (by kernel_rfl) rfl args w
section
variable {o : Oper} {a : Act} {w w' : World} {n : Nat} {v : Value}
theorem r_bs24 (x : Operand) (i : Int) (ho : o.op = .buildSlice 24 1 #[(0, x)]) (hx : a.eval x = .int .i64 i) : (execOp a.eval o).run Try.prog w = .ok (.value (.slice (some ⟨w.heap.size, 0, none⟩) 1 1)) (w.alloc (.cells #[.int .i64 i] 3)) := by
  have hb := bs24 i w
  unfold execOp
  simp only [ho, List.map_toArray, List.map_cons, List.map_nil, hx, Sem.run_bind, hb, Result.andThen_ok]
  rfl
theorem r_bs22 (x : Operand) (A : Option Addr) (m c : Nat) (ho : o.op = .buildSlice 22 1 #[(0, x)]) (hx : a.eval x = .slice A m c) : (execOp a.eval o).run Try.prog w = .ok (.value (.slice (some ⟨w.heap.size, 0, none⟩) 1 1)) (w.alloc (.cells #[.slice A m c] 24)) := by
  have hb := bs22 A m c w
  unfold execOp
  simp only [ho, List.map_toArray, List.map_cons, List.map_nil, hx, Sem.run_bind, hb, Result.andThen_ok]
  rfl
theorem r_len (x : Operand) (T : TypeId) (A : Option Addr) (m c : Nat) {E : TypeId} (hT : Try.prog.underlying T = some (.slice E)) (ho : o.op = .call { callee := .builtin .len, args := #[x], argTypes := #[T] }) (hx : a.eval x = .slice A m c) : (execOp a.eval o).run Try.prog w = .ok (.value (.int .i64 (m : Int))) w := by
  unfold execOp
  simp only [ho, resolve, invoke, builtin, Sem.run_bind, Sem.run_pure, Result.andThen_ok, List.map_toArray, List.map_cons, List.map_nil, hx]
  simp [Builtin.len_, run_underlying hT, goInt]
theorem r_max2 (x y : Operand) (i j z : Int) (ho : o.op = .call { callee := .builtin .max, args := #[x, y], argTypes := #[3, 3] }) (hx : a.eval x = .int .i64 i) (hy : a.eval y = .int .i64 j) (hz : z = max i j) : (execOp a.eval o).run Try.prog w = .ok (.value (.int .i64 z)) w := by
  have e : (if j > i then j else i) = z := by rw [hz]; split <;> omega
  unfold execOp
  simp only [ho, resolve, invoke, builtin, Sem.run_bind, Sem.run_pure, Result.andThen_ok, List.map_toArray, List.map_cons, List.map_nil, hx, hy, run_max_int2, e]
end
/-- what an operation may turn: nothing that lies above N, and nothing of a state unless it is the operation z -/
def Still (N z : Nat) (i : Nat) (w w' : World) : Prop := (∀ k, N ≤ k → k < w.heap.size → w'.heap[k]? = w.heap[k]?) ∧ (i ≠ z → ∀ (k : Nat) (C : Array Value) (e : TypeId), w.heap[k]? = some (.cells C e (0, 0)) → (e = 3 ∨ e = 24) → w'.heap[k]? = w.heap[k]?)
theorem Still.same {N z i : Nat} {w : World} : Still N z i w w := ⟨fun _ _ _ => rfl, fun _ _ _ _ _ _ => rfl⟩
theorem Still.of_below {N z i : Nat} {w w' : World} (h : Below w.heap.size w w') : Still N z i w w' := ⟨fun k _ hk => h.block k hk, fun _ k _C _e hC _ => h.block k (Array.getElem?_eq_some_iff.1 hC).1⟩
theorem Still.box {N z i b : Nat} {w : World} {C0 : Array Value} (hb : w.heap[b]? = some (.cells C0 123 (0, 0))) (hN : b < N) (k : Nat) (v : Value) : Still N z i w (w.setCell ⟨b, k, none⟩ v) :=
  ⟨fun j hj _ => Below.heap_setCell w ⟨b, k, none⟩ v j (fun e => by have e' : j = b := e; omega), fun _ j C e hC he => Below.heap_setCell w ⟨b, k, none⟩ v j fun e' => by
    have e'' : j = b := e'
    rw [e'', hb] at hC
    cases hC
    rcases he with he | he <;> cases he⟩
theorem Still.grown {N z : Nat} {w w' : World} {row : Option Nat} (h : w.grownBy w' row) (hr : ∀ r, row = some r → r < N) : Still N z z w w' :=
  ⟨fun k hk hl => h.block k hl fun e => by have := hr k e.symm; omega, fun e => absurd rfl e⟩
/-- what each operation of the region that adds a row has brought -/
def RowF (base N m : Nat) (t : Tb) (q : List Nat) (P : List Int) (b : Nat) (vr vp vq : Value) (bl cs : Nat → Nat) : Nat → Value → World → Prop
  | 5, v, w => ∃ g, v = .slice (some ⟨g, 0, none⟩) 1 1 ∧ N ≤ g ∧ w.heap[g]? = some (.cells #[.int .i64 (-1)] 3 (0, 0))
  | 10, v, w => ∃ g, v = .slice (some ⟨g, 0, none⟩) m m ∧ N ≤ g ∧ w.heap[g]? = some (.cells (rp (-1) m m).toArray 3 (0, 0))
  | 11, v, w => ∃ g h, v = .slice (some ⟨h, 0, none⟩) 1 1 ∧ N ≤ g ∧ N ≤ h ∧ w.heap[g]? = some (.cells (rp (-1) m m).toArray 3 (0, 0)) ∧ w.heap[h]? = some (.cells #[.slice (some ⟨g, 0, none⟩) m m] 24 (0, 0))
  | 12, v, w => ∃ A c g, v = .slice A (t.length + 1) c ∧ CoreN base w (t ++ [List.replicate m (-1)]) q P v vp vq (fun i => if i = t.length then g else bl i) (fun i => if i = t.length then m else cs i)
  | i, v, _ => v = ([.pointer (some ⟨b, 0, none⟩), .pointer (some ⟨b, 0, none⟩), .pointer (some ⟨b, 0, none⟩), .pointer (some ⟨b, 2, none⟩), vr, undef, .pointer (some ⟨b, 0, none⟩), .pointer (some ⟨b, 0, none⟩), .pointer (some ⟨b, 0, none⟩), .int .i64 (m : Int), undef, undef, undef, .pointer (some ⟨b, 0, none⟩), .pointer (some ⟨b, 2, none⟩), undef] : List Value).getD i undef
theorem RowF.keep {base N m b : Nat} {t : Tb} {q : List Nat} {P : List Int} {vr vp vq : Value} {bl cs : Nat → Nat} : ∀ (i j : Nat) (v : Value) (w w' : World), i < 16 → j < 16 → i ≠ j → Still N 12 i w w' → RowF base N m t q P b vr vp vq bl cs j v w → RowF base N m t q P b vr vp vq bl cs j v w' := by
  intro i j v w w' hi hj hne hS h
  have hk : ∀ (g : Nat) (o : Obj), N ≤ g → w.heap[g]? = some o → w'.heap[g]? = some o := fun g o hg ho => (hS.1 g hg (Array.getElem?_eq_some_iff.1 ho).1).trans ho
  have hcases : j = 5 ∨ j = 10 ∨ j = 11 ∨ j = 12 ∨ (j ≠ 5 ∧ j ≠ 10 ∧ j ≠ 11 ∧ j ≠ 12) := by omega
  rcases hcases with rfl | rfl | rfl | rfl | ⟨h1, h2, h3, h4⟩
  · obtain ⟨g, e, hg, hc⟩ := h
    exact ⟨g, e, hg, hk g _ hg hc⟩
  · obtain ⟨g, e, hg, hc⟩ := h
    exact ⟨g, e, hg, hk g _ hg hc⟩
  · obtain ⟨g, h0, e, hg, hh, hc, hc2⟩ := h
    exact ⟨g, h0, e, hg, hh, hk g _ hg hc, hk h0 _ hh hc2⟩
  · obtain ⟨A, c, g, e, hC⟩ := h
    exact ⟨A, c, g, e, hC.keep fun k C e0 _ hC' he => hS.2 hne k C e0 hC' he⟩
  · unfold RowF at h ⊢
    split at h <;> first | contradiction | exact h
end Go.Proofs
namespace Go.Proofs
open Go.RowKit Go.Shelf Go.Proofs.Ct Go.Maps
/-- a state while a row joins: before the append, behind it, behind the store -/
structure RowS (base b m lim : Nat) (w : World) (s : St) (P : List Int) (vr vp vq : Value) (bl cs : Nat → Nat) (p q : Bool) (W : World) : Prop where
  box : q = false → BoxP b m lim W s vr vp vq ∧ (p = false → CoreN base W s.t s.q P vr vp vq bl cs)
  bel : Below base w W
  done : q = true → ∃ A c g, BoxP b m lim W s (.slice A (s.t.length + 1) c) vp vq ∧ CoreN base W (s.t ++ [List.replicate m (-1)]) s.q P (.slice A (s.t.length + 1) c) vp vq (fun i => if i = s.t.length then g else bl i) (fun i => if i = s.t.length then m else cs i)
section
variable {base b m lim : Nat} {w W W' : World} {s : St} {P : List Int} {vr vp vq : Value} {bl cs : Nat → Nat} {p q : Bool}
theorem RowS.below (h : RowS base b m lim w s P vr vp vq bl cs p q W) (hq : q = false) (hbw : base ≤ w.heap.size) (hb : Below W.heap.size W W') : RowS base b m lim w s P vr vp vq bl cs p q W' :=
  ⟨fun _ => ⟨(h.box hq).1.below hb, fun hp => ((h.box hq).2 hp).below hb⟩, h.bel.trans (hb.mono (Nat.le_trans hbw h.bel.size)), fun e => by rw [hq] at e; cases e⟩
theorem RowS.app (h : RowS base b m lim w s P vr vp vq bl cs p q W) (hq : q = false) (hbw : base ≤ w.heap.size) (hgr : W.grownBy W' vr.ownBlock) (hvr : ∀ r, vr.ownBlock = some r → base ≤ r ∧ r ≠ b) : RowS base b m lim w s P vr vp vq bl cs true q W' :=
  ⟨fun _ => ⟨(h.box hq).1.grown hgr (fun e => (hvr b e).2 rfl), fun e => (by cases e)⟩, h.bel.grown hgr (Nat.le_trans hbw h.bel.size) (fun r e => (hvr r e).1), fun e => by rw [hq] at e; cases e⟩
theorem RowS.fin {A : Option Addr} {c g : Nat} (h : RowS base b m lim w s P vr vp vq bl cs p q W) (hq : q = false) (hb : base ≤ b) (hC : CoreN base W (s.t ++ [List.replicate m (-1)]) s.q P (.slice A (s.t.length + 1) c) vp vq (fun i => if i = s.t.length then g else bl i) (fun i => if i = s.t.length then m else cs i)) : RowS base b m lim w s P vr vp vq bl cs p true (W.setCell ⟨b, 2, none⟩ (.slice A (s.t.length + 1) c)) :=
  ⟨fun e => (by cases e), h.bel.setCell hb _, fun _ => ⟨A, c, g, (h.box hq).1.upd2 _ rfl rfl, hC.other (h.box hq).1.box (by decide) (by decide) 2 _⟩⟩
theorem xs_rp {g : Nat} (h : W.heap[g]? = some (.cells (rp (-1) m m).toArray 3 (0, 0))) : XsAt W g (List.replicate m (-1)) := by
  refine ⟨_, h, by rw [List.size_toArray, length_rp _ (Nat.le_refl _), List.length_replicate]; exact Nat.le_refl _, fun k hk => ?_⟩
  rw [List.length_replicate] at hk
  rw [List.getElem?_toArray, rp_get _ (Nat.le_refl _) hk, if_pos hk]
  simp [List.getD_eq_getElem?_getD, hk]
end
/-- what each operation of the region that adds a parent has brought -/
def ParF (base N : Nat) (t : Tb) (q : List Nat) (P : List Int) (b : Nat) (vr vp vq : Value) (bl cs : Nat → Nat) : Nat → Value → World → Prop
  | 10, v, w => ∃ h, v = .slice (some ⟨h, 0, none⟩) 1 1 ∧ N ≤ h ∧ w.heap[h]? = some (.cells #[.int .i64 (P.length : Int)] 3 (0, 0))
  | 11, v, w => ∃ A c, v = .slice A (P.length + 1) c ∧ CoreN base w t q (P ++ [(P.length : Int)]) vr v vq bl cs
  | i, v, _ => v = ([.pointer (some ⟨b, 0, none⟩), .pointer (some ⟨b, 0, none⟩), .pointer (some ⟨b, 0, none⟩), .pointer (some ⟨b, 3, none⟩), vp, .pointer (some ⟨b, 0, none⟩), .pointer (some ⟨b, 0, none⟩), .pointer (some ⟨b, 3, none⟩), vp, .int .i64 (P.length : Int), undef, undef, .pointer (some ⟨b, 0, none⟩), .pointer (some ⟨b, 3, none⟩), undef] : List Value).getD i undef
theorem ParF.keep {base N b : Nat} {t : Tb} {q : List Nat} {P : List Int} {vr vp vq : Value} {bl cs : Nat → Nat} : ∀ (i j : Nat) (v : Value) (w w' : World), i < 15 → j < 15 → i ≠ j → Still N 11 i w w' → ParF base N t q P b vr vp vq bl cs j v w → ParF base N t q P b vr vp vq bl cs j v w' := by
  intro i j v w w' hi hj hne hS h
  have hk : ∀ (g : Nat) (o : Obj), N ≤ g → w.heap[g]? = some o → w'.heap[g]? = some o := fun g o hg ho => (hS.1 g hg (Array.getElem?_eq_some_iff.1 ho).1).trans ho
  have hcases : j = 10 ∨ j = 11 ∨ (j ≠ 10 ∧ j ≠ 11) := by omega
  rcases hcases with rfl | rfl | ⟨h1, h2⟩
  · obtain ⟨g, e, hg, hc⟩ := h
    exact ⟨g, e, hg, hk g _ hg hc⟩
  · obtain ⟨A, c, e, hC⟩ := h
    exact ⟨A, c, e, hC.keep fun k C e0 _ hC' he => hS.2 hne k C e0 hC' he⟩
  · unfold ParF at h ⊢
    split at h <;> first | contradiction | exact h
/-- a state while a parent joins -/
structure ParS (base N b m lim : Nat) (w : World) (s : St) (t : Tb) (P : List Int) (vr vp vq : Value) (bl cs : Nat → Nat) (p q : Bool) (W : World) : Prop where
  box : q = false → BoxP b m lim W s vr vp vq ∧ (p = false → CoreN base W t s.q P vr vp vq bl cs)
  bel : Below base w W
  siz : N ≤ W.heap.size
  done : q = true → ∃ A c, BoxP b m lim W s vr (.slice A (P.length + 1) c) vq ∧ CoreN base W t s.q (P ++ [(P.length : Int)]) vr (.slice A (P.length + 1) c) vq bl cs
section
variable {base N b m lim : Nat} {w W W' : World} {s : St} {t : Tb} {P : List Int} {vr vp vq : Value} {bl cs : Nat → Nat} {p q : Bool}
theorem ParS.below (h : ParS base N b m lim w s t P vr vp vq bl cs p q W) (hq : q = false) (hbw : base ≤ w.heap.size) (hb : Below W.heap.size W W') : ParS base N b m lim w s t P vr vp vq bl cs p q W' :=
  ⟨fun _ => ⟨(h.box hq).1.below hb, fun hp => ((h.box hq).2 hp).below hb⟩, h.bel.trans (hb.mono (Nat.le_trans hbw h.bel.size)), Nat.le_trans h.siz hb.size, fun e => by rw [hq] at e; cases e⟩
theorem ParS.app (h : ParS base N b m lim w s t P vr vp vq bl cs p q W) (hq : q = false) (hbw : base ≤ w.heap.size) (hgr : W.grownBy W' vp.ownBlock) (hvr : ∀ r, vp.ownBlock = some r → base ≤ r ∧ r ≠ b) : ParS base N b m lim w s t P vr vp vq bl cs true q W' :=
  ⟨fun _ => ⟨(h.box hq).1.grown hgr (fun e => (hvr b e).2 rfl), fun e => (by cases e)⟩, h.bel.grown hgr (Nat.le_trans hbw h.bel.size) (fun r e => (hvr r e).1), Nat.le_trans h.siz hgr.size, fun e => by rw [hq] at e; cases e⟩
theorem ParS.fin {A : Option Addr} {c : Nat} (h : ParS base N b m lim w s t P vr vp vq bl cs p q W) (hq : q = false) (hb : base ≤ b) (hC : CoreN base W t s.q (P ++ [(P.length : Int)]) vr (.slice A (P.length + 1) c) vq bl cs) : ParS base N b m lim w s t P vr vp vq bl cs p true (W.setCell ⟨b, 3, none⟩ (.slice A (P.length + 1) c)) :=
  ⟨fun e => (by cases e), h.bel.setCell hb _, by rw [World.size_setCell]; exact h.siz, fun _ => ⟨A, c, (h.box hq).1.upd3 _ rfl rfl, hC.other (h.box hq).1.box (by decide) (by decide) 3 _⟩⟩
end
theorem sel1 {W A B : World} {p : Bool} (h : W = bif p then B else A) (hp : p = false) : W = A := by
  subst hp
  exact h
end Go.Proofs
namespace Go.Proofs
open Go.RowKit Go.Shelf Go.Proofs.Ct Go.Maps
section
variable {base : Nat} {w w' : World} {t : Tb} {q : List Nat} {P : List Int} {vr vp vq : Value} {bl cs : Nat → Nat}
end
/-- what each operation of the region that adds a parent has brought -/
def ParG (base N : Nat) (t : Tb) (q : List Nat) (P : List Int) (b : Nat) (vr vp vq : Value) (bl cs : Nat → Nat) : Nat → Value → World → Prop
  | 10, v, w => ∃ h, v = .slice (some ⟨h, 0, none⟩) 1 1 ∧ N ≤ h ∧ w.heap[h]? = some (.cells #[.int .i64 (P.length : Int)] 3 (0, 0))
  | 11, v, w => ∃ A c, v = .slice A (P.length + 1) c ∧ CoreN base w t q (P ++ [(P.length : Int)]) vr v vq bl cs
  | i, v, _ => v = ([.pointer (some ⟨b, 0, none⟩), .pointer (some ⟨b, 0, none⟩), .pointer (some ⟨b, 0, none⟩), .pointer (some ⟨b, 1, none⟩), vp, .pointer (some ⟨b, 0, none⟩), .pointer (some ⟨b, 0, none⟩), .pointer (some ⟨b, 0, none⟩), vr, .int .i64 (P.length : Int), undef, undef, .pointer (some ⟨b, 0, none⟩), .pointer (some ⟨b, 1, none⟩), undef] : List Value).getD i undef
theorem ParG.keep {base N b : Nat} {t : Tb} {q : List Nat} {P : List Int} {vr vp vq : Value} {bl cs : Nat → Nat} : ∀ (i j : Nat) (v : Value) (w w' : World), i < 15 → j < 15 → i ≠ j → Still N 11 i w w' → ParG base N t q P b vr vp vq bl cs j v w → ParG base N t q P b vr vp vq bl cs j v w' := by
  intro i j v w w' hi hj hne hS h
  have hk : ∀ (g : Nat) (o : Obj), N ≤ g → w.heap[g]? = some o → w'.heap[g]? = some o := fun g o hg ho => (hS.1 g hg (Array.getElem?_eq_some_iff.1 ho).1).trans ho
  have hcases : j = 10 ∨ j = 11 ∨ (j ≠ 10 ∧ j ≠ 11) := by omega
  rcases hcases with rfl | rfl | ⟨h1, h2⟩
  · obtain ⟨g, e, hg, hc⟩ := h
    exact ⟨g, e, hg, hk g _ hg hc⟩
  · obtain ⟨A, c, e, hC⟩ := h
    exact ⟨A, c, e, hC.keep fun k C e0 _ hC' he => hS.2 hne k C e0 hC' he⟩
  · unfold ParG at h ⊢
    split at h <;> first | contradiction | exact h
/-- a state while a parent joins, beside a row that waits -/
structure ParT (base N b lim gx : Nat) (x : List Int) (w : World) (s : St) (t : Tb) (P : List Int) (vr vp vq : Value) (bl cs : Nat → Nat) (f : Bool) (p q : Bool) (W : World) : Prop where
  box : q = false → BoxR b lim W s vr vp vq f ∧ (p = false → CoreN base W t s.q P vr vp vq bl cs)
  bel : Kf base w W
  siz : N ≤ W.heap.size
  row : XsAt W gx x
  done : q = true → ∃ A c, BoxR b lim W s vr (.slice A (P.length + 1) c) vq f ∧ CoreN base W t s.q (P ++ [(P.length : Int)]) vr (.slice A (P.length + 1) c) vq bl cs
section
variable {base N b lim gx : Nat} {x : List Int} {w W W' : World} {s : St} {t : Tb} {P : List Int} {vr vp vq : Value} {bl cs : Nat → Nat} {f : Bool} {p q : Bool}
theorem ParT.below (h : ParT base N b lim gx x w s t P vr vp vq bl cs f p q W) (hq : q = false) (hbw : base ≤ w.heap.size) (hb : Below W.heap.size W W') : ParT base N b lim gx x w s t P vr vp vq bl cs f p q W' :=
  ⟨fun _ => ⟨(h.box hq).1.below hb, fun hp => ((h.box hq).2 hp).below hb⟩, h.bel.trans (Kf.of hb (Nat.le_trans hbw h.bel.1.size)), Nat.le_trans h.siz hb.size, h.row.below hb, fun e => by rw [hq] at e; cases e⟩
theorem ParT.app (h : ParT base N b lim gx x w s t P vr vp vq bl cs f p q W) (hp : p = false) (hq : q = false) (hbw : base ≤ w.heap.size) (hgr : W.grownBy W' vp.ownBlock) (hvr : ∀ r, vp.ownBlock = some r → base ≤ r ∧ r ≠ b ∧ r ≠ gx) : ParT base N b lim gx x w s t P vr vp vq bl cs f true q W' :=
  ⟨fun _ => ⟨(h.box hq).1.grown hgr (fun e => (hvr b e).2.1 rfl), fun e => (by cases e)⟩, h.bel.grown hgr (Nat.le_trans hbw h.bel.1.size) (owns_kf ((h.box hq).2 hp).par (by decide)), Nat.le_trans h.siz hgr.size, h.row.grown hgr (fun e => (hvr gx e).2.2 rfl), fun e => by rw [hq] at e; cases e⟩
theorem xs_box {w : World} {b g k : Nat} {C0 : Array Value} {x : List Int} (h : XsAt w g x) (hb : w.heap[b]? = some (.cells C0 131 (0, 0))) (v : Value) : XsAt (w.setCell ⟨b, k, none⟩ v) g x :=
  h.keep (Below.heap_setCell w ⟨b, k, none⟩ v g (fun e => by
    obtain ⟨C, hC, -⟩ := h
    have e' : g = b := e
    rw [e', hb] at hC
    cases hC))
theorem ParT.fin {A : Option Addr} {c : Nat} (h : ParT base N b lim gx x w s t P vr vp vq bl cs f p q W) (hq : q = false) (hb : base ≤ b) (hC : CoreN base W t s.q (P ++ [(P.length : Int)]) vr (.slice A (P.length + 1) c) vq bl cs) : ParT base N b lim gx x w s t P vr vp vq bl cs f p true (W.setCell ⟨b, 1, none⟩ (.slice A (P.length + 1) c)) :=
  ⟨fun e => (by cases e), h.bel.setCell hb ⟨_, 131, (h.box hq).1.box, by decide⟩ _, by rw [World.size_setCell]; exact h.siz, xs_box h.row (h.box hq).1.box _, fun _ => ⟨A, c, (h.box hq).1.upd1 _ rfl rfl, hC.other (h.box hq).1.box (by decide) (by decide) 1 _⟩⟩
end
end Go.Proofs
namespace Go.Proofs
open Go.RowKit Go.Shelf Go.Proofs.Ct Go.Maps
theorem StP.below {base b m lim : Nat} {w w' : World} {s : St} (hS : StP base b m lim w s) (hb : Below w.heap.size w w') : StP base b m lim w' s := by
  obtain ⟨h, P, vr, vp, vq, bl, cs, hB, hC⟩ := hS
  exact ⟨h, P, vr, vp, vq, bl, cs, hB.below hb, hC.below hb⟩
/-- what a scan hands back -/
def openV : Option (Nat × Nat) → Value
  | none => .tuple #[.int .i64 0, .int .i64 0, .bool false]
  | some (f, c) => .tuple #[.int .i64 (f : Int), .int .i64 (c : Int), .bool true]
end Go.Proofs
namespace Go.Proofs.Ct
end Go.Proofs.Ct
namespace Go.Proofs
open Go.RowKit Go.Shelf Go.Proofs.Ct Go.Maps
def openR (o : Int × Int × Bool × Bool) : Value := .tuple #[.int .i64 o.1, .int .i64 o.2.1, .bool o.2.2.1, .bool o.2.2.2]
end Go.Proofs
namespace Go.Proofs
open Go.RowKit Go.Shelf Go.Proofs.Ct Go.Maps
/-- the rows, counted in memory -/
def rowsIn (b : Nat) (w : World) : Nat := match w.cell? ⟨b, 2, none⟩ with
  | some (.slice _ n _) => n
  | _ => 0
theorem StP.rowsIn {base b m lim : Nat} {w : World} {s : St} (h : StP base b m lim w s) : rowsIn b w = s.t.length := by
  obtain ⟨-, P, vr, vp, vq, bl, cs, hB, hC⟩ := h
  obtain ⟨A, c, rfl⟩ := owns_form hC.out
  unfold Go.Proofs.rowsIn
  rw [hB.cells.2.2.1]
end Go.Proofs
namespace Go.Proofs
open Go.RowKit Go.Shelf Go.Proofs.Ct Go.Maps
namespace Ct
end Ct
theorem StP.rows {base b m lim : Nat} {w : World} {s : St} (h : StP base b m lim w s) : ∃ A c, w.cell? ⟨b, 2, none⟩ = some (.slice A s.t.length c) := by
  obtain ⟨-, P, vr, vp, vq, bl, cs, hB, hC⟩ := h
  obtain ⟨A, c, rfl⟩ := owns_form hC.out
  exact ⟨A, c, hB.cells.2.2.1⟩
/-- the lists of words that are handed in, whatever the call has written since -/
def Words (base : Nat) (w : World) (v : Value) (l : List W) : Prop := ∃ w0, w0.heap.size = base ∧ Tab w0 v l ∧ Below base w0 w
theorem Words.tab {base : Nat} {w : World} {v : Value} {l : List W} (h : Words base w v l) {W : World} (hb : Below base w W) : Tab W v l := by
  obtain ⟨w0, rfl, ht, h0⟩ := h
  exact kept_tab.below ht (h0.trans hb)
theorem Words.at_ {base : Nat} {w : World} {v : Value} {l : List W} (h : Words base w v l) {k : Nat} (hk : k < l.length) : ∃ b o c u, v = .slice (some ⟨b, o, none⟩) l.length c ∧ ∀ W, Below base w W → W.cell? ⟨b, o + k, none⟩ = some u ∧ IntsAt W u (l.getD k []) := by
  obtain ⟨w0, rfl, ht, h0⟩ := h
  obtain ⟨A, c, rfl, -, -, h3⟩ := ht.open_
  obtain ⟨b, o, rfl, h4⟩ := h3 (by omega)
  obtain ⟨u, hu, hI⟩ := h4 k hk
  exact ⟨b, o, c, u, rfl, fun W hW => ⟨((h0.trans hW).cell (p := ⟨b, o + k, none⟩) (World.block_lt_of_cell? w0 _ hu)).trans hu, kept_ints.below hI (h0.trans hW)⟩⟩
end Go.Proofs
namespace Go.Proofs
open Go.RowKit Go.Shelf Go.Proofs.Ct Go.Maps
theorem StR.live {base b lim : Nat} {w : World} {s : St} (hS : StR base b lim w s) {r : Nat} (hr : r < s.t.length) : ∃ (y gp cp : Nat), w.cell? ⟨b, 1, none⟩ = some (.slice (some ⟨gp, 0, none⟩) s.t.length cp) ∧ w.cell? ⟨gp, r, none⟩ = some (.int .i64 (y : Int)) ∧ (y = r ↔ s.rp r = r) := by
  obtain ⟨P, gp, cp, c1, hR, hc⟩ := hS.par hr
  obtain ⟨y, hy, -, -, hyi⟩ := (hR.root r hr).parent
  have hck := hc r hr
  rw [hy] at hck
  exact ⟨y, gp, cp, c1, hck, hyi⟩
end Go.Proofs
namespace Go.Proofs.Ct
/-- a list whose first c elements are turned -/
def mixTo (f : Int → Int) (x : List Int) (c : Nat) : List Int := (x.take c).map f ++ x.drop c
theorem length_mix (f : Int → Int) (x : List Int) (c : Nat) : (mixTo f x c).length = x.length := by simp [mixTo]; omega
theorem mix_zero (f : Int → Int) (x : List Int) : mixTo f x 0 = x := by simp [mixTo]
theorem mix_all (f : Int → Int) (x : List Int) : mixTo f x x.length = x.map f := by simp [mixTo]
theorem mix_getD (f : Int → Int) (x : List Int) (c : Nat) {i : Nat} (h : i < x.length) : (mixTo f x c).getD i 0 = if i < c then f (x.getD i 0) else x.getD i 0 := by
  unfold mixTo
  rw [List.getD_eq_getElem?_getD, List.getElem?_append]
  by_cases h2 : i < c
  · rw [if_pos (by simp; omega), if_pos h2]
    simp [List.getD_eq_getElem?_getD, h, h2]
  · rw [if_neg (by simp; omega), if_neg h2]
    simp [List.getD_eq_getElem?_getD, Nat.min_eq_left (by omega : c ≤ x.length), show c + (i - c) = i by omega]
theorem mix_set (f : Int → Int) (x : List Int) {c : Nat} (h : c < x.length) : mixTo f x (c + 1) = (mixTo f x c).set c (f (x.getD c 0)) := getD_ext (d := 0) (by simp [length_mix]) fun i hi => by
  rw [length_mix] at hi
  rw [mix_getD f x _ hi, getD_set, length_mix]
  by_cases e : c = i
  · subst e; rw [if_pos (by omega), if_pos ⟨rfl, h⟩]
  · rw [if_neg (fun h' : c = i ∧ c < x.length => e h'.1), mix_getD f x _ hi]
    by_cases h2 : i < c
    · rw [if_pos h2, if_pos (by omega)]
    · rw [if_neg h2, if_neg (by omega)]
end Go.Proofs.Ct
namespace Go.Proofs
open Go.RowKit Go.Shelf Go.Proofs.Ct Go.Maps
theorem OutSt2.set {e : TypeId} (he : e ≠ 3) {F : Nat → Prop} {w0 wr : World} {vout vr : Value} {rows : List (List Int)} {x : List Int} (h : OutSt2 e F w0 wr vout vr rows x) {g k : Nat} (hg : vr.ownBlock = some g) (hk : k < x.length) (z : Int) : OutSt2 e F w0 (wr.setCell ⟨g, k, none⟩ (.int .i64 z)) vout vr rows (x.set k z) := by
  obtain ⟨h1, C, hC⟩ := owns_block h.row g hg
  refine ⟨h.st.grown (grown_setCell wr g k _) fun r hr => ?_, ownI_set h.row hg hk z, h.ap⟩
  obtain rfl : g = r := Option.some.inj hr
  refine ⟨h1, h.ap g hg, fun e' => ?_⟩
  obtain ⟨-, C', hC'⟩ := h.st.out.block g e'
  rw [hC] at hC'
  injection hC' with h5
  injection h5 with _ h6 _
  exact he h6.symm
/-- the rows of a state -/
theorem StP.rowAt {g base b m lim : Nat} {w : World} {s : St} (hI : Inv g s) (hn : s.t.length ≤ 1000000) (h : StP base b m lim w s) {r : Nat} (hr : r < s.t.length) : ∃ gr cr br k, w.cell? ⟨b, 2, none⟩ = some (.slice (some ⟨gr, 0, none⟩) s.t.length cr) ∧ w.cell? ⟨gr, r, none⟩ = some (.slice (some ⟨br, 0, none⟩) (2 * g) k) ∧ IntsAt w (.slice (some ⟨br, 0, none⟩) (2 * g) k) (s.t.row r) := by
  obtain ⟨-, P, vr, vp, vq, bl, cs, hB, hC⟩ := h
  obtain ⟨-, hX, h1, h2⟩ := hC.row r hr
  have hlen := hI.len r hr
  have hfit : Fits (s.t.row r) := fun x hx => by
    obtain ⟨c, hc, rfl⟩ := List.mem_iff_getElem.1 hx
    have := hI.bd r hr c (by omega)
    unfold Tb.at at this
    rw [List.getD_eq_getElem?_getD, List.getElem?_eq_getElem hc] at this
    simp at this
    omega
  obtain ⟨hl, ho⟩ := hC.out
  rcases ho with ⟨-, h0⟩ | ⟨gr, cap, cur, rfl, hb, hCr, h3, hm, hs, ht⟩
  · omega
  · refine ⟨gr, cap, bl r, cs r, hB.cells.2.2.1, ?_, hX.ints hlen (by omega) h2 hfit⟩
    rw [cell_of_row _ _ _ _ _ _ hCr]
    have h2 : (cur.toList.take (s.t.length * 1))[r]? = ((List.range s.t.length).map fun i => Value.slice (some ⟨bl i, 0, none⟩) (s.t.row i).length (cs i))[r]? := by rw [ht]
    rw [List.getElem?_take, if_pos (by omega)] at h2
    simpa [hr, hlen] using h2
end Go.Proofs
namespace Go.Proofs
open Go.RowKit Go.Shelf Go.Proofs.Ct Go.Maps
theorem neq_nil (w : World) : (binOp .neq 20 .nilIface .nilIface).run Try.prog w = .ok (.bool false) w := by kernel_rfl
/-- the cells of the three results: the table at q, the numbers at q + 1, the error at q + 1 + 1 -/
structure ResC (q : Nat) (w : World) (v : Value) (a b c e : Int) : Prop where
  c0 : w.cell? ⟨q, 0, none⟩ = some v
  c1 : w.cell? ⟨q + 1, 0, none⟩ = some (.int .i64 a)
  c2 : w.cell? ⟨q + 1, 1, none⟩ = some (.int .i64 b)
  c3 : w.cell? ⟨q + 1, 2, none⟩ = some (.int .i64 c)
  c4 : w.cell? ⟨q + 1 + 1, 0, none⟩ = some (.int .i64 e)
  f0 : w.frozen? ⟨q, 0, none⟩ = false
  f1 : w.frozen? ⟨q + 1, 0, none⟩ = false
  f2 : w.frozen? ⟨q + 1, 1, none⟩ = false
  f3 : w.frozen? ⟨q + 1, 2, none⟩ = false
  f4 : w.frozen? ⟨q + 1 + 1, 0, none⟩ = false
theorem ResC.lt {q : Nat} {w : World} {v : Value} {a b c e : Int} (h : ResC q w v a b c e) : q + 1 + 1 < w.heap.size := World.block_lt_of_cell? w _ h.c4
theorem ResC.below {q : Nat} {w w' : World} {v : Value} {a b c e : Int} (h : ResC q w v a b c e) {B : Nat} (hq : q + 1 + 1 < B) (hb : Below B w w') : ResC q w' v a b c e :=
  ⟨(hb.cell (p := ⟨q, 0, none⟩) (by show q < B; omega)).trans h.c0, (hb.cell (p := ⟨q + 1, 0, none⟩) (by show q + 1 < B; omega)).trans h.c1, (hb.cell (p := ⟨q + 1, 1, none⟩) (by show q + 1 < B; omega)).trans h.c2, (hb.cell (p := ⟨q + 1, 2, none⟩) (by show q + 1 < B; omega)).trans h.c3, (hb.cell (p := ⟨q + 1 + 1, 0, none⟩) hq).trans h.c4,
   (hb.frozen (p := ⟨q, 0, none⟩) (by show q < B; omega)).trans h.f0, (hb.frozen (p := ⟨q + 1, 0, none⟩) (by show q + 1 < B; omega)).trans h.f1, (hb.frozen (p := ⟨q + 1, 1, none⟩) (by show q + 1 < B; omega)).trans h.f2, (hb.frozen (p := ⟨q + 1, 2, none⟩) (by show q + 1 < B; omega)).trans h.f3, (hb.frozen (p := ⟨q + 1 + 1, 0, none⟩) hq).trans h.f4⟩
/-- all five cells written -/
def setR (q : Nat) (w : World) (v : Value) (a b c e : Int) : World := ((((w.setCell ⟨q, 0, none⟩ v).setCell ⟨q + 1, 0, none⟩ (.int .i64 a)).setCell ⟨q + 1, 1, none⟩ (.int .i64 b)).setCell ⟨q + 1, 2, none⟩ (.int .i64 c)).setCell ⟨q + 1 + 1, 0, none⟩ (.int .i64 e)
theorem cell_set {w : World} {a p : Addr} {u : Value} (h : w.cell? p = some u) (v : Value) : (w.setCell a v).cell? p = some (if a = p then v else u) := by
  split
  · rename_i e; subst e; exact World.cell?_setCell_same _ _ _ h
  · rename_i e; rw [World.cell?_setCell_other _ _ _ _ e]; exact h
theorem ResC.set {q : Nat} {w : World} {v : Value} {a b c e : Int} (h : ResC q w v a b c e) (v' : Value) (a' b' c' e' : Int) : ResC q (setR q w v' a' b' c' e') v' a' b' c' e' := by
  obtain ⟨c0, c1, c2, c3, c4, f0, f1, f2, f3, f4⟩ := h
  unfold setR
  refine ⟨(cell_set (cell_set (cell_set (cell_set (cell_set c0 _) _) _) _) _).trans ?_, (cell_set (cell_set (cell_set (cell_set (cell_set c1 _) _) _) _) _).trans ?_, (cell_set (cell_set (cell_set (cell_set (cell_set c2 _) _) _) _) _).trans ?_, (cell_set (cell_set (cell_set (cell_set (cell_set c3 _) _) _) _) _).trans ?_, (cell_set (cell_set (cell_set (cell_set (cell_set c4 _) _) _) _) _).trans ?_, ?_, ?_, ?_, ?_, ?_⟩ <;> simp [f0, f1, f2, f3, f4]
theorem setR_below {B q : Nat} {w w' : World} (h : Below B w w') (hq : B ≤ q) (v : Value) (a b c e : Int) : Below B w (setR q w' v a b c e) :=
  ((((h.setCell (p := ⟨q, 0, none⟩) hq v).setCell (p := ⟨q + 1, 0, none⟩) (by show B ≤ q + 1; omega) _).setCell (p := ⟨q + 1, 1, none⟩) (by show B ≤ q + 1; omega) _).setCell (p := ⟨q + 1, 2, none⟩) (by show B ≤ q + 1; omega) _).setCell (p := ⟨q + 1 + 1, 0, none⟩) (by show B ≤ q + 1 + 1; omega) _
end Go.Proofs
namespace Go.Proofs
open Go.RowKit Go.Shelf Go.Proofs.Ct Go.Maps
/-- are the words and the limit refused? -/
def badArgs (g : Nat) (sub : List W) (limit : Int) : Bool := decide (100 < sub.length) || decide (4000 < sumTo sub sub.length) || (sub.any fun w => w.any (letBad g)) || decide (limit < 1) || decide (20000 < limit)
def enumE (g : Int) (rels sub : List W) (limit : Int) : Tb × (Int × Int) × Int :=
  if presE g rels ≠ 0 then ([], (0, 0), presE g rels) else
  if badArgs g.toNat sub limit = true then ([], (0, 0), 2) else
  match runS (2 * g.toNat) limit.toNat rels sub with
  | none => ([], (0, 0), 12)
  | some s => ((stdE g (tabS s) 0).1, ((s.t.length : Int), s.most), 0)
def EnumPost (g : Int) (rels sub : List W) (limit : Int) (w : World) (e : Ending) (w' : World) : Prop :=
  (∃ u, e = .returned (.tuple #[u, .agg #[.int .i64 (enumE g rels sub limit).2.1.1, .int .i64 (enumE g rels sub limit).2.1.2, .int .i64 0], .int .i64 (enumE g rels sub limit).2.2]) ∧ Tab w' u (enumE g rels sub limit).1) ∧ Below w.heap.size w w'
theorem EnumPost.err {g : Int} {rels sub : List W} {limit : Int} {w w' : World} {x : Int} (h : enumE g rels sub limit = ([], (0, 0), x)) (hb : Below w.heap.size w w') : EnumPost g rels sub limit w (.returned (.tuple #[.slice none 0 0, .agg #[.int .i64 0, .int .i64 0, .int .i64 0], .int .i64 x])) w' := by
  unfold EnumPost
  rw [h]
  exact ⟨⟨_, rfl, tab_nil⟩, hb⟩
end Go.Proofs
namespace Go.Proofs
open Go.RowKit Go.Shelf Go.Proofs.Ct Go.Maps
/-- the state that Begin lays -/
def made124 (w : World) (lim : Nat) : World := w.alloc (.cells #[.slice none 0 0, .slice none 0 0, .slice none 0 0, .int .i64 (lim : Int), .int .i64 0, .int .i64 0, .bool false] 131)
theorem StR.made (w : World) (lim : Nat) : StR w.heap.size w.heap.size lim (made124 w lim) nilS :=
  ⟨Nat.le_refl _, [], .slice none 0 0, .slice none 0 0, .slice none 0 0, fun _ => 0, fun _ => 0, false, ⟨heap_alloc_new w _⟩, ⟨World.ownsRow_nil _ _ _ _, fun i hi => absurd hi (Nat.not_lt_zero _), fun i j hi => absurd hi (Nat.not_lt_zero _), World.ownsRow_nil _ _ _ _, World.ownsRow_nil _ _ _ _, fun i hi => absurd hi (Nat.not_lt_zero _), fun i hi => absurd hi (Nat.not_lt_zero _), (fun r hr => by cases hr), ⟨rfl, fun x hx => absurd hx (Nat.not_lt_zero _)⟩⟩⟩
theorem inv_nil (g : Nat) : Inv g nilS := by
  refine ⟨?_, ?_, rfl, ?_, ?_, ?_⟩ <;> intro x hx <;> exact absurd hx (Nat.not_lt_zero _)
/-- the error of the arguments -/
def givenE (g : Int) (rels sub : List W) (limit : Int) : Int := if presE g rels ≠ 0 then presE g rels else if badArgs g.toNat sub limit = true then 2 else 0
theorem sumTo_le' {sub : List W} (h : ∀ j, (sub.getD j []).length ≤ 100000) : ∀ k, sumTo sub k ≤ k * 100000
  | 0 => Nat.zero_le _
  | k + 1 => by
    have := sumTo_le' h k
    have := h k
    show sumTo sub k + (sub.getD k []).length ≤ (k + 1) * 100000
    omega
end Go.Proofs
namespace Go.Proofs
open Go.RowKit Go.Shelf Go.Proofs.Ct Go.Maps
theorem resC_made (w : World) (x : Array Value) : ResC (w.heap.size + 1) ((((w.alloc (.cells x 40)).alloc (.cells #[.slice none 0 0] 23)).alloc (.cells #[.int .i64 0, .int .i64 0, .int .i64 0] 49)).alloc (.cells #[.int .i64 0] 28)) (.slice none 0 0) 0 0 0 0 := by
  constructor <;> simp [go_sem]
/-- the state that Enumerate lays -/
def made116 (w : World) (g lim : Nat) : World := w.alloc (.cells #[.int .i64 (2 * (g : Int)), .int .i64 (lim : Int), .slice none 0 0, .slice none 0 0, .slice none 0 0, .int .i64 0, .int .i64 0] 123)
theorem StP.made (w : World) (g lim : Nat) : StP w.heap.size w.heap.size (2 * g) lim (made116 w g lim) nilS := by
  refine ⟨Nat.le_refl _, [], .slice none 0 0, .slice none 0 0, .slice none 0 0, fun _ => 0, fun _ => 0, ⟨?_⟩, ⟨World.ownsRow_nil _ _ _ _, fun i hi => absurd hi (Nat.not_lt_zero _), fun i j hi => absurd hi (Nat.not_lt_zero _), World.ownsRow_nil _ _ _ _, World.ownsRow_nil _ _ _ _, fun i hi => absurd hi (Nat.not_lt_zero _), fun i hi => absurd hi (Nat.not_lt_zero _), (fun r hr => by cases hr), ⟨rfl, fun x hx => absurd hx (Nat.not_lt_zero _)⟩⟩⟩
  have := heap_alloc_new w (.cells #[.int .i64 (2 * (g : Int)), .int .i64 (lim : Int), .slice none 0 0, .slice none 0 0, .slice none 0 0, .int .i64 0, .int .i64 0] 123)
  have e : ((2 * g : Nat) : Int) = 2 * (g : Int) := by omega
  rw [e]
  exact this
theorem Words.of {w : World} {v : Value} {l : List W} (h : Tab w v l) {w' : World} (hb : Below w.heap.size w w') : Words w.heap.size w' v l := ⟨w, rfl, h, hb⟩
theorem addr_ne {a b : Addr} (h : a.block ≠ b.block ∨ a.off ≠ b.off) : a ≠ b := fun e => by
  subst e
  rcases h with h | h <;> exact h rfl
theorem ResC.set2 {q : Nat} {w : World} {v : Value} {a b c e : Int} (h : ResC q w v a b c e) (v' : Value) (e' : Int) : ResC q ((w.setCell ⟨q, 0, none⟩ v').setCell ⟨q + 1 + 1, 0, none⟩ (.int .i64 e')) v' a b c e' := by
  obtain ⟨c0, c1, c2, c3, c4, f0, f1, f2, f3, f4⟩ := h
  refine ⟨(cell_set (cell_set c0 _) _).trans ?_, (cell_set (cell_set c1 _) _).trans ?_, (cell_set (cell_set c2 _) _).trans ?_, (cell_set (cell_set c3 _) _).trans ?_, (cell_set (cell_set c4 _) _).trans ?_, ?_, ?_, ?_, ?_, ?_⟩ <;> simp [f0, f1, f2, f3, f4]
theorem TabB.setCell {B : Nat} {w : World} {u : Value} {l : List (List Int)} (h : TabB B w u l) {p : Addr} (hp : p.block < B) (v : Value) : TabB B (w.setCell p v) u l :=
  h.keep (by simp [World.setCell]) fun k h1 _ => Below.heap_setCell w p v k (by omega)
theorem setR_tabB {B q : Nat} {w : World} {u : Value} {l : List (List Int)} (h : TabB B w u l) (h1 : q + 1 < B) (h2 : q + 1 + 1 < B) (v : Value) (a b c e : Int) : TabB B (setR q w v a b c e) u l :=
  ((((h.setCell (p := ⟨q, 0, none⟩) (by show q < B; omega) v).setCell (p := ⟨q + 1, 0, none⟩) h1 _).setCell (p := ⟨q + 1, 1, none⟩) h1 _).setCell (p := ⟨q + 1, 2, none⟩) h1 _).setCell (p := ⟨q + 1 + 1, 0, none⟩) h2 _
/-- what the last statement reads -/
abbrev S16 (q p : Nat) (u r m : Value) (W : World) : Prop := W.cell? ⟨q, 0, none⟩ = some u ∧ W.cell? ⟨p, 2, none⟩ = some r ∧ W.cell? ⟨p, 6, none⟩ = some m ∧ W.cell? ⟨q + 1 + 1, 0, none⟩ = some (.int .i64 0)
theorem S16.drew {q p : Nat} {u r m : Value} {W : World} (h : S16 q p u r m W) : S16 q p u r m W.drew := h
theorem S16.st0 {q p : Nat} {u r m : Value} {W : World} (h : S16 q p u r m W) : S16 q p u r m (W.setCell ⟨q, 0, none⟩ u) :=
  ⟨(cell_set h.1 _).trans (by simp), (cell_set h.2.1 _).trans (by simp), (cell_set h.2.2.1 _).trans (by simp), (cell_set h.2.2.2 _).trans (by simp)⟩
theorem S16.st1 {q p : Nat} {u r m : Value} {W : World} (h : S16 q p u r m W) (a b : Value) (hne : q + 1 ≠ p) : ∀ c : Value, S16 q p u r m (((W.setCell ⟨q + 1, 0, none⟩ a).setCell ⟨q + 1, 1, none⟩ b).setCell ⟨q + 1, 2, none⟩ c) := fun c =>
  ⟨(cell_set (cell_set (cell_set h.1 _) _) _).trans (by simp), (cell_set (cell_set (cell_set h.2.1 _) _) _).trans (by simp), (cell_set (cell_set (cell_set h.2.2.1 _) _) _).trans (by simp), (cell_set (cell_set (cell_set h.2.2.2 _) _) _).trans (by simp)⟩
theorem S16.st2 {q p : Nat} {u r m : Value} {W : World} (h : S16 q p u r m W) : S16 q p u r m (W.setCell ⟨q + 1 + 1, 0, none⟩ (.int .i64 0)) :=
  ⟨(cell_set h.1 _).trans (by simp), (cell_set h.2.1 _).trans (by simp), (cell_set h.2.2.1 _).trans (by simp), (cell_set h.2.2.2 _).trans (by simp)⟩
/-- what Enumerate answers, and in which blocks its table lies -/
def EnumPostB (g : Int) (rels sub : List W) (limit : Int) (w : World) (e : Ending) (w' : World) : Prop :=
  (∃ u, e = .returned (.tuple #[u, .agg #[.int .i64 (enumE g rels sub limit).2.1.1, .int .i64 (enumE g rels sub limit).2.1.2, .int .i64 0], .int .i64 (enumE g rels sub limit).2.2]) ∧ TabB w.heap.size w' u (enumE g rels sub limit).1) ∧ Below w.heap.size w w'
theorem EnumPostB.err {g : Int} {rels sub : List W} {limit : Int} {w w' : World} {x : Int} (h : enumE g rels sub limit = ([], (0, 0), x)) (hb : Below w.heap.size w w') : EnumPostB g rels sub limit w (.returned (.tuple #[.slice none 0 0, .agg #[.int .i64 0, .int .i64 0, .int .i64 0], .int .i64 x])) w' := by
  unfold EnumPostB
  rw [h]
  exact ⟨⟨_, rfl, TabB.nil⟩, hb⟩
theorem EnumPostB.plain {g : Int} {rels sub : List W} {limit : Int} {w w' : World} {e : Ending} (h : EnumPostB g rels sub limit w e w') : EnumPost g rels sub limit w e w' := by
  obtain ⟨⟨u, h1, h2⟩, h3⟩ := h
  exact ⟨⟨u, h1, h2.at_⟩, h3⟩
theorem TabB.low {B B' : Nat} {w : World} {u : Value} {l : List (List Int)} (h : TabB B w u l) (hb : B' ≤ B) : TabB B' w u l := fun w' hk => h w' fun k h1 h2 => hk k (Nat.le_trans hb h1) h2
theorem TabB.belowB {B : Nat} {w w' : World} {u : Value} {l : List (List Int)} (h : TabB B w u l) (hb : Below w.heap.size w w') : TabB B w' u l := h.keep hb.size fun k _ h2 => hb.block k h2
end Go.Proofs
namespace Go.Proofs
open Go.RowKit Go.Shelf Go.Proofs.Ct Go.Maps
/-- the cells of the numbers -/
structure NumC (q : Nat) (w : World) (a b c : Int) : Prop where
  c1 : w.cell? ⟨q, 0, none⟩ = some (.int .i64 a)
  c2 : w.cell? ⟨q, 1, none⟩ = some (.int .i64 b)
  c3 : w.cell? ⟨q, 2, none⟩ = some (.int .i64 c)
  f1 : w.frozen? ⟨q, 0, none⟩ = false
  f2 : w.frozen? ⟨q, 1, none⟩ = false
  f3 : w.frozen? ⟨q, 2, none⟩ = false
theorem NumC.lt {q : Nat} {w : World} {a b c : Int} (h : NumC q w a b c) : q < w.heap.size := World.block_lt_of_cell? w _ h.c1
theorem NumC.below {q : Nat} {w w' : World} {a b c : Int} (h : NumC q w a b c) {B : Nat} (hq : q < B) (hb : Below B w w') : NumC q w' a b c :=
  ⟨(hb.cell (p := ⟨q, 0, none⟩) hq).trans h.c1, (hb.cell (p := ⟨q, 1, none⟩) hq).trans h.c2, (hb.cell (p := ⟨q, 2, none⟩) hq).trans h.c3, (hb.frozen (p := ⟨q, 0, none⟩) hq).trans h.f1, (hb.frozen (p := ⟨q, 1, none⟩) hq).trans h.f2, (hb.frozen (p := ⟨q, 2, none⟩) hq).trans h.f3⟩
def setN (q : Nat) (w : World) (a b c : Int) : World := ((w.setCell ⟨q, 0, none⟩ (.int .i64 a)).setCell ⟨q, 1, none⟩ (.int .i64 b)).setCell ⟨q, 2, none⟩ (.int .i64 c)
theorem NumC.set {q : Nat} {w : World} {a b c : Int} (h : NumC q w a b c) (a' b' c' : Int) : NumC q (setN q w a' b' c') a' b' c' := by
  obtain ⟨c1, c2, c3, f1, f2, f3⟩ := h
  unfold setN
  refine ⟨(cell_set (cell_set (cell_set c1 _) _) _).trans ?_, (cell_set (cell_set (cell_set c2 _) _) _).trans ?_, (cell_set (cell_set (cell_set c3 _) _) _).trans ?_, ?_, ?_, ?_⟩ <;> simp [f1, f2, f3]
end Go.Proofs
namespace Go.Proofs
open Go.RowKit Go.Shelf Go.Proofs.Ct Go.Maps
def smallT : List (List Int) := [[1, 1], [2, 2, 2], [1, 2, 1, 2]]
theorem ints_blk {w : World} {b : Nat} {xs : List Int} (h : w.heap[b]? = some (.cells (ints xs).toArray 3 (0, 0))) (hf : Fits xs) {n : Nat} (hn : xs.length = n) (hm : n ≤ 1000) : IntsAt w (.slice (some ⟨b, 0, none⟩) n n) xs := by
  subst hn
  have hl : xs.length ≤ 9223372036854775807 := by omega
  refine ⟨⟨_, xs.length, xs.length, rfl, by simp [ints], Nat.le_refl _, by simpa [maxLen] using hl, fun _ => ⟨b, 0, rfl, fun j u hu => ?_⟩⟩, hf⟩
  rw [cell_of_row _ _ _ _ _ _ h, Nat.zero_add]
  simpa using hu
/-- rows in a block -/
theorem tab_blk {w : World} {b : Nat} {us : List Value} {xs : List (List Int)} {e : TypeId} (hb : w.heap[b]? = some (.cells us.toArray e (0, 0))) {n : Nat} (hn : us.length = n) (hl : us.length = xs.length) (hm : us.length ≤ 1000) (h : ∀ i, i < xs.length → IntsAt w (us.getD i undef) (xs.getD i [])) :
    Tab w (.slice (some ⟨b, 0, none⟩) n n) xs := by
  subst hn
  have hl9 : us.length ≤ 9223372036854775807 := by omega
  refine ⟨us, ⟨_, us.length, us.length, rfl, rfl, Nat.le_refl _, by simpa [maxLen] using hl9, fun _ => ⟨b, 0, rfl, fun j u hu => ?_⟩⟩, hl, fun i hi => ?_⟩
  · rw [cell_of_row _ _ _ _ _ _ hb, Nat.zero_add]
    simpa using hu
  · have hi' : i < us.length := by omega
    refine ⟨us.getD i undef, ?_, h i hi⟩
    simp [List.getD_eq_getElem?_getD, hi']
theorem fits_lit {xs : List Int} (h : (xs.all fun x => decide (-1000 ≤ x) && decide (x ≤ 1000)) = true) : Fits xs := fun x hx => by
  have := List.all_eq_true.1 h x hx
  simp at this
  omega
theorem build40s (g : Int) (A : Option Addr) (n c : Nat) (w : World) : (Instr.build 40 #[(0, .int .i64 g), (1, .slice A n c)]).run Try.prog w = .ok (.agg #[.int .i64 g, .slice A n c]) w := by kernel_rfl
section
variable {o : Oper} {a : Act} {w w' : World} {n : Nat} {v : Value}
theorem r_build40s (x y : Operand) (g : Int) (A : Option Addr) (m c : Nat) (ho : o.op = .build 40 #[(0, x), (1, y)]) (hx : a.eval x = .int .i64 g) (hy : a.eval y = .slice A m c) : (execOp a.eval o).run Try.prog w = .ok (.value (.agg #[.int .i64 g, .slice A m c])) w := by
  have hb := build40s g A m c w
  unfold execOp
  simp only [ho, List.map_toArray, List.map_cons, List.map_nil, hx, hy, Sem.run_bind, hb, Result.andThen_ok]
  rfl
end
theorem results_40 {fn : Func} {p : Tmp} (h : fn.results = #[.cell p 40]) (tmps : Array Value) (w : World) (g : Nat) (cs : Array Value)
    (hp : tmps.getD p undef = .pointer (some ⟨g, 0, none⟩)) (hg : w.heap[g]? = some (.cells cs 40 (0, 0))) (hs : cs.size = 2) :
    (results fn tmps).run Try.prog w = .ok (.agg cs) w := by
  have hp' : tmps[p]?.getD undef = .pointer (some ⟨g, 0, none⟩) := by simpa using hp
  simp [results, h, hp', asAddr, run_loadVar_row w g 40 40 cs (0, 0) _ hg Try.underlying40 rfl (by rw [hs]; exact info40s)]
def PresAt (g : Int) (l : List (List Int)) (w : World) (e : Ending) (w' : World) : Prop := (∃ A c, e = .returned (.agg #[.int .i64 g, .slice A l.length c]) ∧ Tab w' (.slice A l.length c) l) ∧ Below w.heap.size w w'
/-- what a slot of the drawn region holds -/
inductive SP where
  | eq (v : Value) | ints (l : List Int) | tab (l : List (List Int)) | pres (g : Int) (l : List (List Int)) | any
def SP.holds : SP → Value → World → Prop
  | .eq u, v, _ => v = u
  | .ints l, v, w => IntsAt w v l
  | .tab l, v, w => ∃ A c, v = .slice A l.length c ∧ Tab w v l
  | .pres g l, v, w => ∃ A c, v = .agg #[.int .i64 g, .slice A l.length c] ∧ Tab w (.slice A l.length c) l
  | .any, _, _ => True
theorem SP.keep {s : SP} {v : Value} {w w' : World} (h : Below w.heap.size w w') : s.holds v w → s.holds v w' := by
  cases s with
  | eq u => exact id
  | ints l => exact fun k => k.below h
  | tab l => exact fun ⟨A, c, e, k⟩ => ⟨A, c, e, kept_tab.below k h⟩
  | pres g l => exact fun ⟨A, c, e, k⟩ => ⟨A, c, e, kept_tab.below k h⟩
  | any => exact id
section
variable {o : Oper} {a : Act} {w w' : World} {n : Nat} {v : Value}
end
end Go.Proofs
namespace Go.Proofs.Ct
/-- a word leads from x to y -/
def Way (t : Tb) : Nat → W → Nat → Prop
  | x, [], y => x = y
  | x, l :: w, y => ∃ z, Edge t x (col l) z ∧ Way t z w y
section
variable {t : Tb} {g : Nat} {s s0 s1 : St}
theorem way_app {u v : W} : ∀ {x y : Nat}, Way t x (u ++ v) y ↔ ∃ z, Way t x u z ∧ Way t z v y := by
  induction u with
  | nil => intro x y; exact ⟨fun h => ⟨x, rfl, h⟩, fun ⟨z, h1, h2⟩ => by have e : x = z := h1; subst e; exact h2⟩
  | cons l u ih =>
    intro x y
    constructor
    · rintro ⟨z, h1, h2⟩
      obtain ⟨z', h3, h4⟩ := ih.1 h2
      exact ⟨z', ⟨z, h1, h3⟩, h4⟩
    · rintro ⟨z', ⟨z, h1, h3⟩, h4⟩
      exact ⟨z, h1, ih.2 ⟨z', h3, h4⟩⟩
theorem way_one {x y : Nat} {l : Int} : Way t x [l] y ↔ Edge t x (col l) y := ⟨fun ⟨z, h1, h2⟩ => by have e : z = y := h2; subst e; exact h1, fun h => ⟨y, h, rfl⟩⟩
theorem take_snocW {w : W} {k : Nat} (h : k < w.length) : w.take (k + 1) = w.take k ++ [w.getD k 0] := by
  rw [List.take_add_one, List.getD_eq_getElem?_getD, List.getElem?_eq_getElem h]; rfl
theorem way_of_lead {r : Nat} {w : W} : ∀ (k : Nat), k ≤ w.length → 0 ≤ leadTo t r w k → Way t r (w.take k) (leadTo t r w k).toNat
  | 0, _, _ => by
    rw [List.take_zero]
    show r = ((r : Int)).toNat
    omega
  | k + 1, hk, h => by
    rw [leadTo_succ] at h ⊢
    by_cases h1 : leadTo t r w k < 0
    · rw [if_pos h1] at h; omega
    · rw [if_neg h1] at h ⊢
      have ih := way_of_lead (r := r) (w := w) k (by omega) (by omega)
      rw [take_snocW (by omega)]
      refine way_app.2 ⟨_, ih, way_one.2 ?_⟩
      unfold Edge
      omega
theorem lead_of_way {r : Nat} {w : W} : ∀ (k : Nat), k ≤ w.length → ∀ {y : Nat}, Way t r (w.take k) y → leadTo t r w k = (y : Int)
  | 0, _, y, h => by
    rw [List.take_zero] at h
    have e : r = y := h
    subst e; rfl
  | k + 1, hk, y, h => by
    rw [take_snocW (by omega)] at h
    obtain ⟨z, h1, h2⟩ := way_app.1 h
    have ih := lead_of_way k (by omega) h1
    rw [leadTo_succ, ih, if_neg (by omega), Int.toNat_natCast]
    exact way_one.1 h2
theorem leads_iff {r y : Nat} {w : W} : leads t r w = (y : Int) ↔ Way t r w y := by
  constructor
  · intro h
    have := way_of_lead (t := t) (r := r) w.length (Nat.le_refl _) (by show 0 ≤ leads t r w; omega)
    rw [List.take_length] at this
    have e : (leadTo t r w w.length).toNat = y := by show (leads t r w).toNat = y; omega
    rwa [e] at this
  · intro h
    exact lead_of_way w.length (Nat.le_refl _) (by rw [List.take_length]; exact h)
theorem LOk.cons {l : Int} {w : W} (h : LOk g (l :: w)) : (-(g : Int) ≤ l ∧ l ≤ g ∧ l ≠ 0) ∧ LOk g w := ⟨h l (List.mem_cons_self ..), fun x hx => h x (List.mem_cons_of_mem _ hx)⟩
theorem col_ltL {l : Int} (h : -(g : Int) ≤ l ∧ l ≤ g ∧ l ≠ 0) : col l < 2 * g := by unfold col; split <;> omega
theorem inv_cons (l : Int) (w : W) : inv (l :: w) = inv w ++ [-l] := by simp [inv]
theorem inv_inv (w : W) : inv (inv w) = w := by simp [inv, Function.comp_def]
theorem inv_app (u v : W) : inv (u ++ v) = inv v ++ inv u := by simp [inv]
theorem way_inv (h : Inv g s) : ∀ {w : W} {x y : Nat}, LOk g w → x < s.t.length → Way s.t x w y → Way s.t y (inv w) x := by
  intro w
  induction w with
  | nil => intro x y _ _ h; exact Eq.symm h
  | cons l w ih =>
    rintro x y hw hx ⟨z, h1, h2⟩
    rw [inv_cons]
    refine way_app.2 ⟨z, ih hw.cons.2 (h1.lt h hx (col_ltL hw.cons.1)) h2, way_one.2 ?_⟩
    rw [col_inv hw.cons.1.2.2]
    exact h1.back h hx (col_ltL hw.cons.1)
theorem way_ext (h0 : Inv g s0) (h : Ext g s0 s1) : ∀ {w : W} {x y : Nat}, LOk g w → x < s0.t.length → Way s0.t x w y → Way s1.t (s1.rp x) w (s1.rp y) := by
  intro w
  induction w with
  | nil => intro x y _ _ h; have e : x = y := h; subst e; exact rfl
  | cons l w ih =>
    rintro x y hw hx ⟨z, h1, h2⟩
    have hz := h1.lt h0 hx (col_ltL hw.cons.1)
    exact ⟨_, h.edge _ _ _ hx (col_ltL hw.cons.1) h1, ih hw.cons.2 hz h2⟩
/-- a word is closed at a coset -/
def Clo (s : St) (r : Nat) (w : W) : Prop := Way s.t (s.rp r) w (s.rp r)
theorem Clo.ext (h0 : Rest g s0) (h : Ext g s0 s1) {r : Nat} (hr : r < s0.t.length) {w : W} (hw : LOk g w) (hc : Clo s0 r w) : Clo s1 r w := by
  have := way_ext h0.inv h hw (h0.inv.rlt hr) hc
  rwa [h.coarse r hr] at this
theorem drop_inv {w : W} {k : Nat} (hk : k ≤ w.length) : inv ((inv w).take k) = w.drop (w.length - k) := by
  have h1 : inv w = inv (w.drop (w.length - k)) ++ inv (w.take (w.length - k)) := by rw [← inv_app, List.take_append_drop]
  have h2 : (inv (w.drop (w.length - k))).length = k := by rw [length_inv, List.length_drop]; omega
  rw [h1, List.take_append_of_le_length (by omega), List.take_of_length_le (by omega), inv_inv]
theorem scan_closed (h : Rest g s) {r : Nat} (hr : r < s.t.length) (hlr : s.rp r = r) {w : W} (hw : LOk g w) {s' : St} (e : scanS (2 * g) s r w = (s', none)) : Clo s' r w := by
  obtain ⟨f1, f2, f3⟩ := fwd_spec s.t r w
  have fp := fwd_pos s.t r w
  obtain ⟨b1, b2, b3⟩ := bwd_spec s.t r w (fwd s.t r w)
  have bp := bwd_pos s.t r w (fwd s.t r w)
  obtain ⟨fl, flv⟩ := lead_live h hw hr hlr _ f1 fp
  obtain ⟨bl, blv⟩ := lead_live h hw.inv hr hlr _ (by rw [length_inv]; exact b1) bp
  have hF := way_of_lead _ f1 fp
  have hB := way_inv h.inv (fun x hx => hw.inv x (List.mem_of_mem_take hx)) hr (way_of_lead _ (by rw [length_inv]; exact b1) bp)
  rw [drop_inv b1] at hB
  have hnext : fwd s.t r w < w.length → s.t.at (leadTo s.t r w (fwd s.t r w)).toNat (col (w.getD (fwd s.t r w) 0)) < 0 := fun hlt => by
    rcases f2 with f2 | f2
    · omega
    · rw [leadTo_succ, if_neg (by omega)] at f2
      exact f2
  have hback : ¬ w.length ≤ fwd s.t r w + bwd s.t r w (fwd s.t r w) → s.t.at (leadTo s.t r (Ct.inv w) (bwd s.t r w (fwd s.t r w))).toNat (col ((Ct.inv w).getD (bwd s.t r w (fwd s.t r w)) 0)) < 0 := fun hlt => by
    rcases b2 with b2 | b2
    · omega
    · rw [leadTo_succ, if_neg (by omega)] at b2
      exact b2
  have hik : fwd s.t r w + bwd s.t r w (fwd s.t r w) ≤ w.length := by
    rcases Nat.eq_zero_or_pos (bwd s.t r w (fwd s.t r w)) with h0 | h0
    · omega
    · have := (b3 (bwd s.t r w (fwd s.t r w) - 1) (by omega)).1
      omega
  have hwt : ∀ k, LOk g (w.take k) := fun k x hx => hw x (List.mem_of_mem_take hx)
  have hwd : ∀ k, LOk g (w.drop k) := fun k x hx => hw x (List.mem_of_mem_drop hx)
  unfold scanS at e
  generalize hi : fwd s.t r w = i at *
  generalize hk : bwd s.t r w i = k at *
  generalize leadTo s.t r w i = f at *
  generalize leadTo s.t r (Ct.inv w) k = b at *
  unfold Clo
  by_cases h1 : i = w.length
  · rw [if_pos h1] at e
    rw [h1, List.take_length] at hF
    by_cases h2 : f = (r : Int)
    · rw [if_pos h2] at e
      cases e
      rw [hlr]
      rw [h2, Int.toNat_natCast] at hF
      exact hF
    · rw [if_neg h2] at e
      cases e
      obtain ⟨c1, c2, c3, c4⟩ := coin_rest h fl hr
      have := way_ext h.inv (Ext.of_cov c1 c2) hw hr hF
      rwa [c3] at this
  · rw [if_neg h1] at e
    by_cases h2 : w.length ≤ i + k
    · rw [if_pos h2] at e
      cases e
      obtain ⟨c1, c2, c3, c4⟩ := coin_rest h fl bl
      have hE := Ext.of_cov c1 c2
      rw [show w.length - k = i by omega] at hB
      have w1 := way_ext h.inv hE (hwt i) hr hF
      have w2 := way_ext h.inv hE (hwd i) bl hB
      rw [c3] at w1
      have := way_app.2 ⟨_, w1, w2⟩
      rwa [List.take_append_drop] at this
    · rw [if_neg h2] at e
      have hil : i < w.length := by omega
      by_cases h3 : w.length = i + k + 1
      · rw [if_pos h3] at e
        cases e
        have hb := hback h2
        rw [inv_getD (by omega), show w.length - 1 - k = i by omega, col_inv (hw.getD hil).2.2] at hb
        obtain ⟨c1, c2, c3⟩ := h.join fl bl (hw.col hil) flv blv (hnext hil) hb
        rw [show w.length - k = i + 1 by omega] at hB
        have w1 := way_ext h.inv c2 (hwt i) hr hF
        have w2 := way_ext h.inv c2 (hwd (i + 1)) bl hB
        rw [rp_joinS, rp_joinS, hlr, flv] at w1
        rw [rp_joinS, rp_joinS, hlr, blv] at w2
        rw [rp_joinS, hlr]
        have := way_app.2 ⟨_, way_app.2 ⟨_, w1, way_one.2 c3⟩, w2⟩
        rwa [← take_snocW hil, List.take_append_drop] at this
      · rw [if_neg h3] at e
        cases e
end
end Go.Proofs.Ct
namespace Go.Proofs.Ct
section
variable {g lim : Nat} {s s0 s1 : St} {rels sub : List W}
/-- the relators are closed at the cosets below k -/
def RC (rels : List W) (s : St) (k : Nat) : Prop := ∀ x, x < k → x < s.t.length → ∀ i, i < rels.length → Clo s x (rels.getD i [])
theorem RC.ext (h0 : Rest g s0) (h : Ext g s0 s1) (hr : ∀ j, j < rels.length → LOk g (rels.getD j [])) {k : Nat} (hk : k ≤ s0.t.length) (hc : RC rels s0 k) : RC rels s1 k := fun x hx _ i hi =>
  (hc x hx (by omega) i hi).ext h0 h (by omega) (hr i hi)
theorem clo_rp (h : Inv g s) {r : Nat} (hr : r < s.t.length) {w : W} (hc : Clo s (s.rp r) w) : Clo s r w := by
  unfold Clo at hc ⊢
  rwa [h.rid r hr] at hc
/-- an edge of the table of the living -/
theorem tab_edge (h : Rest g s) {x y c : Nat} (hx : x < s.t.length) (hc : c < 2 * g) (he : Edge s.t x c y) : num s x < (tabS s).length ∧ Edge (tabS s) (num s x) c (num s y) := by
  obtain ⟨h1, h2, h3⟩ := h.live hx hc he
  obtain ⟨k1, k2⟩ := num_lt (n := s.t.length) hx h1
  refine ⟨by rw [length_tab]; exact k1, ?_⟩
  unfold Edge
  have h4 : (liv s).getD (num s x) 0 = x := k2
  rw [at_tab k1 (by rw [h4, h.inv.len x hx]; exact hc), h4, show s.t.at x c = (y : Int) from he, Int.toNat_natCast]
theorem tab_way (h : Rest g s) : ∀ {w : W} {x y : Nat}, LOk g w → x < s.t.length → Way s.t x w y → Way (tabS s) (num s x) w (num s y) := by
  intro w
  induction w with
  | nil => intro x y _ _ e; have e : x = y := e; rw [e]; exact rfl
  | cons l w ih =>
    rintro x y hw hx ⟨z, h1, h2⟩
    have hz := h1.lt h.inv hx (col_ltL hw.cons.1)
    exact ⟨_, (tab_edge h hx (col_ltL hw.cons.1) h1).2, ih hw.cons.2 hz h2⟩
/-- the words that are closed, in the table of the living -/
theorem tab_closed (h : Rest g s) (hr : ∀ j, j < rels.length → LOk g (rels.getD j [])) (hC : RC rels s s.t.length) : ∀ i, i < (tabS s).length → ∀ j, j < rels.length → Way (tabS s) i (rels.getD j []) i := fun i hi j hj => by
  rw [length_tab] at hi
  obtain ⟨h1, h2, h3⟩ := livTo_at (s := s) s.t.length i hi
  have := hC _ h1 h1 j hj
  unfold Clo at this
  rw [h2] at this
  have h4 := tab_way h (hr j hj) h1 this
  rwa [h3] at h4
theorem tab_closed0 (h : Rest g s) (hn : 1 ≤ s.t.length) {w : W} (hw : LOk g w) (hC : Clo s 0 w) : Way (tabS s) 0 w 0 := by
  unfold Clo at hC
  rw [rp_zero h hn] at hC
  exact tab_way h hw hn hC
end
end Go.Proofs.Ct
