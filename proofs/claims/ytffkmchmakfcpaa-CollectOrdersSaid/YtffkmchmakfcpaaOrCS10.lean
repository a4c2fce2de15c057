/- Operations that make or grow a list, one at a time; what stands while a row joins; (*coset.state).add; (*coset.state).add where there is no room; define; (*coset.state).scan. -/
import Derived.Test.YtffkmchmakfcpaaOrCS9
namespace Go.Proofs.B18
open Go.RowKit Go.Shelf Go.Proofs.Ct Go.Maps
theorem bs24 (x : Int) (w : World) : (Instr.buildSlice 22 1 #[(0, .int .i64 x)]).run Try.prog w = .ok (.slice (some ⟨w.heap.size, 0, none⟩) 1 1) (w.alloc (.cells #[.int .i64 x] 3)) := by kernel_rfl
theorem bs22 (A : Option Addr) (m c : Nat) (w : World) : (Instr.buildSlice 23 1 #[(0, .slice A m c)]).run Try.prog w = .ok (.slice (some ⟨w.heap.size, 0, none⟩) 1 1) (w.alloc (.cells #[.slice A m c] 22)) := by kernel_rfl
theorem call148 (args : Array Value) (w : World) : (callFunc 111 args).run Try.prog w = .ok (.enter 111 args) w := enters_of Try.func111 (by kernel_rfl) rfl args w
section
variable {o : Oper} {a : Act} {w w' : World} {n : Nat} {v : Value}
theorem r_bs24 (x : Operand) (i : Int) (ho : o.op = .buildSlice 22 1 #[(0, x)]) (hx : a.eval x = .int .i64 i) : (execOp a.eval o).run Try.prog w = .ok (.value (.slice (some ⟨w.heap.size, 0, none⟩) 1 1)) (w.alloc (.cells #[.int .i64 i] 3)) := by
  have hb := bs24 i w
  unfold execOp
  simp only [ho, List.map_toArray, List.map_cons, List.map_nil, hx, Sem.run_bind, hb, Result.andThen_ok]
  rfl
theorem r_bs22 (x : Operand) (A : Option Addr) (m c : Nat) (ho : o.op = .buildSlice 23 1 #[(0, x)]) (hx : a.eval x = .slice A m c) : (execOp a.eval o).run Try.prog w = .ok (.value (.slice (some ⟨w.heap.size, 0, none⟩) 1 1)) (w.alloc (.cells #[.slice A m c] 22)) := by
  have hb := bs22 A m c w
  unfold execOp
  simp only [ho, List.map_toArray, List.map_cons, List.map_nil, hx, Sem.run_bind, hb, Result.andThen_ok]
  rfl
theorem r_len (x : Operand) (T : TypeId) (A : Option Addr) (m c : Nat) {E : TypeId} (hT : Try.prog.underlying T = some (.slice E)) (ho : o.op = .call { callee := .builtin .len, args := #[x], argTypes := #[T] }) (hx : a.eval x = .slice A m c) : (execOp a.eval o).run Try.prog w = .ok (.value (.int .i64 (m : Int))) w := by
  unfold execOp
  simp only [ho, resolve, invoke, builtin, Sem.run_bind, Sem.run_pure, Result.andThen_ok, List.map_toArray, List.map_cons, List.map_nil, hx]
  simp [Builtin.len_, run_underlying hT, goInt]
theorem r_max2 (x y : Operand) (i j z : Int) (ho : o.op = .call { callee := .builtin .max, args := #[x, y], argTypes := #[3, 3] }) (hx : a.eval x = .int .i64 i) (hy : a.eval y = .int .i64 j) (hz : z = max i j) : (execOp a.eval o).run Try.prog w = .ok (.value (.int .i64 z)) w := by
  have e : (if j > i then j else i) = z := by rw [hz]; split <;> omega
  unfold execOp
  simp only [ho, resolve, invoke, builtin, Sem.run_bind, Sem.run_pure, Result.andThen_ok, List.map_toArray, List.map_cons, List.map_nil, hx, hy, run_max_int2, e]
end
/-- what an operation may turn: nothing that lies above N, and nothing of a state unless it is the operation z -/
def Still (N z : Nat) (i : Nat) (w w' : World) : Prop := (∀ k, N ≤ k → k < w.heap.size → w'.heap[k]? = w.heap[k]?) ∧ (i ≠ z → ∀ (k : Nat) (C : Array Value) (e : TypeId), w.heap[k]? = some (.cells C e (0, 0)) → (e = 3 ∨ e = 22) → w'.heap[k]? = w.heap[k]?)
theorem Still.same {N z i : Nat} {w : World} : Still N z i w w := ⟨fun _ _ _ => rfl, fun _ _ _ _ _ _ => rfl⟩
theorem Still.of_below {N z i : Nat} {w w' : World} (h : Below w.heap.size w w') : Still N z i w w' := ⟨fun k _ hk => h.block k hk, fun _ k _C _e hC _ => h.block k (Array.getElem?_eq_some_iff.1 hC).1⟩
theorem Still.box {N z i b : Nat} {w : World} {C0 : Array Value} (hb : w.heap[b]? = some (.cells C0 131 (0, 0))) (hN : b < N) (k : Nat) (v : Value) : Still N z i w (w.setCell ⟨b, k, none⟩ v) :=
  ⟨fun j hj _ => Below.heap_setCell w ⟨b, k, none⟩ v j (fun e => by have e' : j = b := e; omega), fun _ j C e hC he => Below.heap_setCell w ⟨b, k, none⟩ v j fun e' => by
    have e'' : j = b := e'
    rw [e'', hb] at hC
    cases hC
    rcases he with he | he <;> cases he⟩
theorem Still.grown {N z : Nat} {w w' : World} {row : Option Nat} (h : w.grownBy w' row) (hr : ∀ r, row = some r → r < N) : Still N z z w w' :=
  ⟨fun k hk hl => h.block k hl fun e => by have := hr k e.symm; omega, fun e => absurd rfl e⟩
/-- what each operation of the region that adds a row has brought -/
def RowF (base N m : Nat) (t : Tb) (q : List Nat) (P : List Int) (b : Nat) (vr vp vq : Value) (bl cs : Nat → Nat) : Nat → Value → World → Prop
  | 5, v, w => ∃ g, v = .slice (some ⟨g, 0, none⟩) 1 1 ∧ N ≤ g ∧ w.heap[g]? = some (.cells #[.int .i64 (-1)] 3 (0, 0))
  | 10, v, w => ∃ g, v = .slice (some ⟨g, 0, none⟩) m m ∧ N ≤ g ∧ w.heap[g]? = some (.cells (rp (-1) m m).toArray 3 (0, 0))
  | 11, v, w => ∃ g h, v = .slice (some ⟨h, 0, none⟩) 1 1 ∧ N ≤ g ∧ N ≤ h ∧ w.heap[g]? = some (.cells (rp (-1) m m).toArray 3 (0, 0)) ∧ w.heap[h]? = some (.cells #[.slice (some ⟨g, 0, none⟩) m m] 22 (0, 0))
  | 12, v, w => ∃ A c g, v = .slice A (t.length + 1) c ∧ CoreN base w (t ++ [List.replicate m (-1)]) q P v vp vq (fun i => if i = t.length then g else bl i) (fun i => if i = t.length then m else cs i)
  | i, v, _ => v = ([.pointer (some ⟨b, 0, none⟩), .pointer (some ⟨b, 0, none⟩), .pointer (some ⟨b, 0, none⟩), .pointer (some ⟨b, 2, none⟩), vr, undef, .pointer (some ⟨b, 0, none⟩), .pointer (some ⟨b, 0, none⟩), .pointer (some ⟨b, 0, none⟩), .int .i64 (m : Int), undef, undef, undef, .pointer (some ⟨b, 0, none⟩), .pointer (some ⟨b, 2, none⟩), undef] : List Value).getD i undef
theorem RowF.keep {base N m b : Nat} {t : Tb} {q : List Nat} {P : List Int} {vr vp vq : Value} {bl cs : Nat → Nat} : ∀ (i j : Nat) (v : Value) (w w' : World), i < 16 → j < 16 → i ≠ j → Still N 12 i w w' → RowF base N m t q P b vr vp vq bl cs j v w → RowF base N m t q P b vr vp vq bl cs j v w' := by
  intro i j v w w' hi hj hne hS h
  have hk : ∀ (g : Nat) (o : Obj), N ≤ g → w.heap[g]? = some o → w'.heap[g]? = some o := fun g o hg ho => (hS.1 g hg (Array.getElem?_eq_some_iff.1 ho).1).trans ho
  have hcases : j = 5 ∨ j = 10 ∨ j = 11 ∨ j = 12 ∨ (j ≠ 5 ∧ j ≠ 10 ∧ j ≠ 11 ∧ j ≠ 12) := by omega
  rcases hcases with rfl | rfl | rfl | rfl | ⟨h1, h2, h3, h4⟩
  · obtain ⟨g, e, hg, hc⟩ := h
    exact ⟨g, e, hg, hk g _ hg hc⟩
  · obtain ⟨g, e, hg, hc⟩ := h
    exact ⟨g, e, hg, hk g _ hg hc⟩
  · obtain ⟨g, h0, e, hg, hh, hc, hc2⟩ := h
    exact ⟨g, h0, e, hg, hh, hk g _ hg hc, hk h0 _ hh hc2⟩
  · obtain ⟨A, c, g, e, hC⟩ := h
    exact ⟨A, c, g, e, hC.keep fun k C e0 _ hC' he => hS.2 hne k C e0 hC' he⟩
  · unfold RowF at h ⊢
    split at h <;> first | contradiction | exact h
end Go.Proofs.B18
namespace Go.Proofs.B18
open Go.RowKit Go.Shelf Go.Proofs.Ct Go.Maps
/-- a state while a row joins: before the append, behind it, behind the store -/
structure RowS (base b m lim : Nat) (w : World) (s : St) (P : List Int) (vr vp vq : Value) (bl cs : Nat → Nat) (p q : Bool) (W : World) : Prop where
  box : q = false → BoxP b m lim W s vr vp vq ∧ (p = false → CoreN base W s.t s.q P vr vp vq bl cs)
  bel : Below base w W
  done : q = true → ∃ A c g, BoxP b m lim W s (.slice A (s.t.length + 1) c) vp vq ∧ CoreN base W (s.t ++ [List.replicate m (-1)]) s.q P (.slice A (s.t.length + 1) c) vp vq (fun i => if i = s.t.length then g else bl i) (fun i => if i = s.t.length then m else cs i)
section
variable {base b m lim : Nat} {w W W' : World} {s : St} {P : List Int} {vr vp vq : Value} {bl cs : Nat → Nat} {p q : Bool}
theorem RowS.below (h : RowS base b m lim w s P vr vp vq bl cs p q W) (hq : q = false) (hbw : base ≤ w.heap.size) (hb : Below W.heap.size W W') : RowS base b m lim w s P vr vp vq bl cs p q W' :=
  ⟨fun _ => ⟨(h.box hq).1.below hb, fun hp => ((h.box hq).2 hp).below hb⟩, h.bel.trans (hb.mono (Nat.le_trans hbw h.bel.size)), fun e => by rw [hq] at e; cases e⟩
theorem RowS.app (h : RowS base b m lim w s P vr vp vq bl cs p q W) (hq : q = false) (hbw : base ≤ w.heap.size) (hgr : W.grownBy W' vr.ownBlock) (hvr : ∀ r, vr.ownBlock = some r → base ≤ r ∧ r ≠ b) : RowS base b m lim w s P vr vp vq bl cs true q W' :=
  ⟨fun _ => ⟨(h.box hq).1.grown hgr (fun e => (hvr b e).2 rfl), fun e => (by cases e)⟩, h.bel.grown hgr (Nat.le_trans hbw h.bel.size) (fun r e => (hvr r e).1), fun e => by rw [hq] at e; cases e⟩
theorem RowS.fin {A : Option Addr} {c g : Nat} (h : RowS base b m lim w s P vr vp vq bl cs p q W) (hq : q = false) (hb : base ≤ b) (hC : CoreN base W (s.t ++ [List.replicate m (-1)]) s.q P (.slice A (s.t.length + 1) c) vp vq (fun i => if i = s.t.length then g else bl i) (fun i => if i = s.t.length then m else cs i)) : RowS base b m lim w s P vr vp vq bl cs p true (W.setCell ⟨b, 2, none⟩ (.slice A (s.t.length + 1) c)) :=
  ⟨fun e => (by cases e), h.bel.setCell hb _, fun _ => ⟨A, c, g, (h.box hq).1.upd2 _ rfl rfl, hC.other (h.box hq).1.box (by decide) (by decide) 2 _⟩⟩
theorem xs_rp {g : Nat} (h : W.heap[g]? = some (.cells (rp (-1) m m).toArray 3 (0, 0))) : XsAt W g (List.replicate m (-1)) := by
  refine ⟨_, h, by rw [List.size_toArray, length_rp _ (Nat.le_refl _), List.length_replicate]; exact Nat.le_refl _, fun k hk => ?_⟩
  rw [List.length_replicate] at hk
  rw [List.getElem?_toArray, rp_get _ (Nat.le_refl _) hk, if_pos hk]
  simp [List.getD_eq_getElem?_getD, hk]
end
/-- what each operation of the region that adds a parent has brought -/
def ParF (base N : Nat) (t : Tb) (q : List Nat) (P : List Int) (b : Nat) (vr vp vq : Value) (bl cs : Nat → Nat) : Nat → Value → World → Prop
  | 10, v, w => ∃ h, v = .slice (some ⟨h, 0, none⟩) 1 1 ∧ N ≤ h ∧ w.heap[h]? = some (.cells #[.int .i64 (P.length : Int)] 3 (0, 0))
  | 11, v, w => ∃ A c, v = .slice A (P.length + 1) c ∧ CoreN base w t q (P ++ [(P.length : Int)]) vr v vq bl cs
  | i, v, _ => v = ([.pointer (some ⟨b, 0, none⟩), .pointer (some ⟨b, 0, none⟩), .pointer (some ⟨b, 0, none⟩), .pointer (some ⟨b, 3, none⟩), vp, .pointer (some ⟨b, 0, none⟩), .pointer (some ⟨b, 0, none⟩), .pointer (some ⟨b, 3, none⟩), vp, .int .i64 (P.length : Int), undef, undef, .pointer (some ⟨b, 0, none⟩), .pointer (some ⟨b, 3, none⟩), undef] : List Value).getD i undef
theorem ParF.keep {base N b : Nat} {t : Tb} {q : List Nat} {P : List Int} {vr vp vq : Value} {bl cs : Nat → Nat} : ∀ (i j : Nat) (v : Value) (w w' : World), i < 15 → j < 15 → i ≠ j → Still N 11 i w w' → ParF base N t q P b vr vp vq bl cs j v w → ParF base N t q P b vr vp vq bl cs j v w' := by
  intro i j v w w' hi hj hne hS h
  have hk : ∀ (g : Nat) (o : Obj), N ≤ g → w.heap[g]? = some o → w'.heap[g]? = some o := fun g o hg ho => (hS.1 g hg (Array.getElem?_eq_some_iff.1 ho).1).trans ho
  have hcases : j = 10 ∨ j = 11 ∨ (j ≠ 10 ∧ j ≠ 11) := by omega
  rcases hcases with rfl | rfl | ⟨h1, h2⟩
  · obtain ⟨g, e, hg, hc⟩ := h
    exact ⟨g, e, hg, hk g _ hg hc⟩
  · obtain ⟨A, c, e, hC⟩ := h
    exact ⟨A, c, e, hC.keep fun k C e0 _ hC' he => hS.2 hne k C e0 hC' he⟩
  · unfold ParF at h ⊢
    split at h <;> first | contradiction | exact h
/-- a state while a parent joins -/
structure ParS (base N b m lim : Nat) (w : World) (s : St) (t : Tb) (P : List Int) (vr vp vq : Value) (bl cs : Nat → Nat) (p q : Bool) (W : World) : Prop where
  box : q = false → BoxP b m lim W s vr vp vq ∧ (p = false → CoreN base W t s.q P vr vp vq bl cs)
  bel : Below base w W
  siz : N ≤ W.heap.size
  done : q = true → ∃ A c, BoxP b m lim W s vr (.slice A (P.length + 1) c) vq ∧ CoreN base W t s.q (P ++ [(P.length : Int)]) vr (.slice A (P.length + 1) c) vq bl cs
section
variable {base N b m lim : Nat} {w W W' : World} {s : St} {t : Tb} {P : List Int} {vr vp vq : Value} {bl cs : Nat → Nat} {p q : Bool}
theorem ParS.below (h : ParS base N b m lim w s t P vr vp vq bl cs p q W) (hq : q = false) (hbw : base ≤ w.heap.size) (hb : Below W.heap.size W W') : ParS base N b m lim w s t P vr vp vq bl cs p q W' :=
  ⟨fun _ => ⟨(h.box hq).1.below hb, fun hp => ((h.box hq).2 hp).below hb⟩, h.bel.trans (hb.mono (Nat.le_trans hbw h.bel.size)), Nat.le_trans h.siz hb.size, fun e => by rw [hq] at e; cases e⟩
theorem ParS.app (h : ParS base N b m lim w s t P vr vp vq bl cs p q W) (hq : q = false) (hbw : base ≤ w.heap.size) (hgr : W.grownBy W' vp.ownBlock) (hvr : ∀ r, vp.ownBlock = some r → base ≤ r ∧ r ≠ b) : ParS base N b m lim w s t P vr vp vq bl cs true q W' :=
  ⟨fun _ => ⟨(h.box hq).1.grown hgr (fun e => (hvr b e).2 rfl), fun e => (by cases e)⟩, h.bel.grown hgr (Nat.le_trans hbw h.bel.size) (fun r e => (hvr r e).1), Nat.le_trans h.siz hgr.size, fun e => by rw [hq] at e; cases e⟩
theorem ParS.fin {A : Option Addr} {c : Nat} (h : ParS base N b m lim w s t P vr vp vq bl cs p q W) (hq : q = false) (hb : base ≤ b) (hC : CoreN base W t s.q (P ++ [(P.length : Int)]) vr (.slice A (P.length + 1) c) vq bl cs) : ParS base N b m lim w s t P vr vp vq bl cs p true (W.setCell ⟨b, 3, none⟩ (.slice A (P.length + 1) c)) :=
  ⟨fun e => (by cases e), h.bel.setCell hb _, by rw [World.size_setCell]; exact h.siz, fun _ => ⟨A, c, (h.box hq).1.upd3 _ rfl rfl, hC.other (h.box hq).1.box (by decide) (by decide) 3 _⟩⟩
end
theorem sel1 {W A B : World} {p : Bool} (h : W = bif p then B else A) (hp : p = false) : W = A := by
  subst hp
  exact h
set_option maxRecDepth 100000 in
set_option maxHeartbeats 4000000 in
theorem add126_any (g m base b lim : Nat) (hm : m ≤ 1000) (w : World) (s : St) (hI : Inv g s) (hS : StP base b m lim w s) (hbw : base ≤ w.heap.size) (hn : s.t.length ≤ 1000000) (hl0 : -1000000 ≤ s.live) (hl1 : s.live ≤ 1000000) (hne : s.t.length ≠ lim) :
    Calls Try.prog 102 #[.pointer (some ⟨b, 0, none⟩)] w fun e w' => e = .returned (.int .i64 (s.t.length : Int)) ∧ StP base b m lim w' (addS m s) ∧ Below base w w' := by
  obtain ⟨hb, P, vr, vp, vq, bl, cs, hB, hC⟩ := hS
  obtain ⟨Ar, cr, rfl⟩ := owns_form hC.out
  have hd := (Below.refl w.heap.size w).drew
  have hB1 := hB.below hd
  have hC1 := hC.toN.below hd
  have hb1 : Below base w w.drew := hd.mono hbw
  obtain ⟨-, c1, c2, -, -, -, -⟩ := hB.cells
  have HBW := Lib.hid hbw
  have HBB := Lib.hid hb
  have HBN := Lib.hid hB.lt
  have HVR : Hid (∀ r, (Value.slice Ar s.t.length cr).ownBlock = some r → base ≤ r ∧ r ≠ b) := Lib.hid fun r hr => ⟨(owns_block hC.out r hr).1, fun e => (hC.ne_box hB).2.2.1 (by rw [hr, e])⟩
  have HVN : Hid (∀ r, (Value.slice Ar s.t.length cr).ownBlock = some r → r < w.heap.size) := Lib.hid fun r hr => owns_lt hC.out hr
  have HADD : Hid (∀ (W : World) (g h : Nat), CoreN base W s.t s.q P (.slice Ar s.t.length cr) vp vq bl cs → Below base w W → w.heap.size ≤ g → W.heap[g]? = some (.cells (rp (-1) m m).toArray 3 (0, 0)) → W.heap[h]? = some (.cells #[.slice (some ⟨g, 0, none⟩) m m] 22 (0, 0)) →
      ∃ A c w3, (Builtin.append_ #[23, 23] 23 #[.slice Ar s.t.length cr, .slice (some ⟨h, 0, none⟩) 1 1]).run Try.prog W = .ok (.slice A (s.t.length + 1) c) w3 ∧ CoreN base w3 (s.t ++ [List.replicate m (-1)]) s.q P (.slice A (s.t.length + 1) c) vp vq (fun i => if i = s.t.length then g else bl i) (fun i => if i = s.t.length then m else cs i) ∧ W.grownBy w3 (Value.slice Ar s.t.length cr).ownBlock) := Lib.hid fun W g h hN hbl hg h1 h2 =>
    hN.pushRow (Nat.le_trans hbw hbl.size) (Nat.le_trans hbw hg) (xs_rp h1) (by simp) hm (fun i hi e => by have := (hC.row i hi).2.1.lt; omega) (fun e => by have := owns_lt hC.par e; omega) (fun e => by have := owns_lt hC.que e; omega) (by rw [cell_of_row _ _ _ _ _ _ h2]; rfl) hn
  have hn0 : (s.t.length : Int) ≤ 1000000 := by omega
  have d1 : ((s.t.length : Int) == (lim : Int)) = false := by rw [beq_eq_false_iff_ne]; omega
  have HB1 := Lib.hid hB1
  have HC1 := Lib.hid hC1
  have HBE := Lib.hid hb1
  clear hB1 hC1 hb1 hd hB hbw hb
  go_enter Try.func102, Try.ntmps102
  go_wp2_with fail
  go_region
  go_wp2_with fail
  generalize w.drew = w1 at *
  refine (wpIn_wide (n := 3)).1 ?_
  refine wpIn_region_all (by kernel_rfl) 16 rfl (fun i => if i < 15 then some (15 + i) else none) (lex_of (by kernel_rfl)) (fun ls W => RowS base b m lim w s P (.slice Ar s.t.length cr) vp vq bl cs (ls 12) (ls 15) W)
    (RowF base w.heap.size m s.t s.q P b (.slice Ar s.t.length cr) vp vq bl cs) (Still w.heap.size 12) (dm_inj (by kernel_rfl)) RowF.keep (dm_lt (n := 69) (by kernel_rfl)) ?_ ?_ ?_
  · have hd := (Below.refl w1.heap.size w1).drew
    exact ⟨fun _ => ⟨HB1.out.below hd, fun _ => HC1.out.below hd⟩, HBE.out.trans (hd.mono (Nat.le_trans HBW.out HBE.out.size)), fun e => by cases e⟩
  · intro ls q o a w2 hq ho hS2 hls hcl hP hpre
    have hcases : q = 0 ∨ q = 1 ∨ q = 2 ∨ q = 3 ∨ q = 4 ∨ q = 5 ∨ q = 6 ∨ q = 7 ∨ q = 8 ∨ q = 9 ∨ q = 10 ∨ q = 11 ∨ q = 12 ∨ q = 13 ∨ q = 14 ∨ q = 15 := by
      have : q < 16 := hq
      omega
    rcases hcases with rfl | rfl | rfl | rfl | rfl | rfl | rfl | rfl | rfl | rfl | rfl | rfl | rfl | rfl | rfl | rfl
    · obtain rfl := Option.some.inj ho
      exact wpOpIn_of rfl rfl (wpW_val (r_move (.tmp 0) rfl (hP.out 0 (dm_out (by kernel_rfl)))) ⟨_, rfl, hS2, Still.same, (fun h => by simp at h), rfl⟩)
    · obtain rfl := Option.some.inj ho
      exact wpOpIn_of rfl rfl (wpW_val (r_move (.tmp 0) rfl (hP.out 0 (dm_out (by kernel_rfl)))) ⟨_, rfl, hS2, Still.same, (fun h => by simp at h), rfl⟩)
    · obtain rfl := Option.some.inj ho
      exact wpOpIn_of rfl rfl (wpW_val (r_nil (.tmp 16) _ rfl (hpre ⟨1, .data⟩ (by simp) rfl).2) ⟨_, rfl, hS2, Still.same, (fun h => by simp at h), rfl⟩)
    · obtain rfl := Option.some.inj ho
      exact wpOpIn_of rfl rfl (wpW_val (r_fld (.tmp 17) _ rfl (hpre ⟨2, .data⟩ (by simp) rfl).2 (fld116_2 b _)) ⟨_, rfl, hS2, Still.same, (fun h => by simp at h), rfl⟩)
    · obtain rfl := Option.some.inj ho
      have h15 := not_yet hcl 15 rfl ⟨4, .phase⟩ (by simp) rfl hls
      exact wpOpIn_of rfl rfl (wpW_val (r_load1 23 agg22 (.tmp 18) ⟨b, 2, none⟩ rfl (hpre ⟨3, .data⟩ (by simp) rfl).2 (hS2.1 h15).1.cells.2.2.1) ⟨_, rfl, hS2, Still.same, (fun h => by simp at h), rfl⟩)
    · obtain rfl := Option.some.inj ho
      have h15 := not_yet hcl 15 rfl ⟨5, .phase⟩ (by simp) rfl hls
      have hbl : Below w2.heap.size w2 (w2.alloc (.cells #[.int .i64 (-1)] 3)) := (Below.refl _ _).alloc (Nat.le_refl _) _
      exact wpOpIn_of rfl rfl (wpW_val (r_bs24 (.const (.int .i64 (-1))) (-1) rfl rfl) ⟨_, rfl, hS2.below h15 HBW.out hbl, Still.of_below hbl, (fun h => by simp at h), _, rfl, hS2.2.size, heap_alloc_new w2 _⟩)
    · obtain rfl := Option.some.inj ho
      exact wpOpIn_of rfl rfl (wpW_val (r_move (.tmp 0) rfl (hP.out 0 (dm_out (by kernel_rfl)))) ⟨_, rfl, hS2, Still.same, (fun h => by simp at h), rfl⟩)
    · obtain rfl := Option.some.inj ho
      exact wpOpIn_of rfl rfl (wpW_val (r_nil (.tmp 21) _ rfl (hpre ⟨6, .data⟩ (by simp) rfl).2) ⟨_, rfl, hS2, Still.same, (fun h => by simp at h), rfl⟩)
    · obtain rfl := Option.some.inj ho
      exact wpOpIn_of rfl rfl (wpW_val (r_fld (.tmp 22) _ rfl (hpre ⟨7, .data⟩ (by simp) rfl).2 (fld116_0 b _)) ⟨_, rfl, hS2, Still.same, (fun h => by simp at h), rfl⟩)
    · obtain rfl := Option.some.inj ho
      have h15 := not_yet hcl 15 rfl ⟨9, .phase⟩ (by simp) rfl hls
      exact wpOpIn_of rfl rfl (wpW_val (r_load1 3 agg3 (.tmp 23) ⟨b, 0, none⟩ rfl (hpre ⟨8, .data⟩ (by simp) rfl).2 (hS2.1 h15).1.cells.1) ⟨_, rfl, hS2, Still.same, (fun h => by simp at h), rfl⟩)
    · obtain rfl := Option.some.inj ho
      have h15 := not_yet hcl 15 rfl ⟨10, .phase⟩ (by simp) rfl hls
      obtain ⟨g5, e5, hg5, hc5⟩ := (hpre ⟨5, .data⟩ (by simp) rfl).2
      have e9 := (hpre ⟨9, .data⟩ (by simp) rfl).2
      have hcx : w2.cell? ⟨g5, 0, none⟩ = some (.int .i64 (-1)) := by rw [cell_of_row _ _ _ _ _ _ hc5]; rfl
      exact wpOpIn_of rfl rfl (wpW_call (R := fun v w' => (∃ g, v = .slice (some ⟨g, 0, none⟩) m m ∧ w2.heap.size ≤ g ∧ w'.heap[g]? = some (.cells (rp (-1) m m).toArray 3 (0, 0))) ∧ Below w2.heap.size w2 w') (r_call2 (.tmp 20) (.tmp 24) _ _ _ rfl e5 e9 call148) ((repeat148_any w2 g5 0 1 (-1) m hm hcx).mono fun e w' ⟨v, he, hx, hb⟩ => ⟨v, he, hx, hb⟩)
        (fun v w'' h => ⟨v, rfl, hS2.below h15 HBW.out h.2, Still.of_below h.2, (fun h => by simp at h), by obtain ⟨⟨g, e, hg, hc⟩, -⟩ := h; exact ⟨g, e, Nat.le_trans hS2.2.size hg, hc⟩⟩))
    · obtain rfl := Option.some.inj ho
      have h15 := not_yet hcl 15 rfl ⟨11, .phase⟩ (by simp) rfl hls
      obtain ⟨g6, e6, hg6, hc6⟩ := (hpre ⟨10, .data⟩ (by simp) rfl).2
      have hbl : Below w2.heap.size w2 (w2.alloc (.cells #[.slice (some ⟨g6, 0, none⟩) m m] 22)) := (Below.refl _ _).alloc (Nat.le_refl _) _
      exact wpOpIn_of rfl rfl (wpW_val (r_bs22 (.tmp 25) (some ⟨g6, 0, none⟩) m m rfl e6) ⟨_, rfl, hS2.below h15 HBW.out hbl, Still.of_below hbl, (fun h => by simp at h), g6, _, rfl, hg6, hS2.2.size, (hbl.block g6 (Array.getElem?_eq_some_iff.1 hc6).1).trans hc6, heap_alloc_new w2 _⟩)
    · obtain rfl := Option.some.inj ho
      have h15 : ls 15 = false := not_yet hcl 15 rfl ⟨12, .data⟩ (by simp) rfl hls
      have e4 := (hpre ⟨4, .data⟩ (by simp) rfl).2
      obtain ⟨g6, h7, e6, hg6, hh7, hc6, hc7⟩ := (hpre ⟨11, .data⟩ (by simp) rfl).2
      obtain ⟨A, c, w3, hrun, hC3, hgr⟩ := HADD.out w2 g6 h7 ((hS2.1 h15).2 hls) hS2.2 hg6 hc6 hc7
      exact wpOpIn_of rfl rfl (wpW_val (r_app (.tmp 19) (.tmp 26) 23 rfl e4 e6 hrun) ⟨_, rfl, hS2.app h15 HBW.out hgr HVR.out, Still.grown hgr HVN.out, (fun h => by simp at h), A, c, g6, rfl, hC3⟩)
    · obtain rfl := Option.some.inj ho
      exact wpOpIn_of rfl rfl (wpW_val (r_nil (.tmp 15) _ rfl (hpre ⟨0, .data⟩ (by simp) rfl).2) ⟨_, rfl, hS2, Still.same, (fun h => by simp at h), rfl⟩)
    · obtain rfl := Option.some.inj ho
      exact wpOpIn_of rfl rfl (wpW_val (r_fld (.tmp 28) _ rfl (hpre ⟨13, .data⟩ (by simp) rfl).2 (fld116_2 b _)) ⟨_, rfl, hS2, Still.same, (fun h => by simp at h), rfl⟩)
    · obtain rfl := Option.some.inj ho
      have h12 : ls 12 = true := (hpre ⟨12, .data⟩ (by simp) rfl).1
      obtain ⟨A, c, g6, e12, hC3⟩ := (hpre ⟨12, .data⟩ (by simp) rfl).2
      have hBx := (hS2.1 hls).1
      rw [e12] at hC3
      exact wpOpIn_of rfl rfl (wpW_skip (r_store1 23 (.tmp 29) (.tmp 27) ⟨b, 2, none⟩ _ _ rfl (hpre ⟨14, .data⟩ (by simp) rfl).2 e12 rfl hBx.cells.2.2.1 (hBx.frozen 2) (st22 _ _ A _ c hBx.cells.2.2.1 (hBx.frozen 2))) ⟨undef, rfl, hS2.fin hls HBB.out hC3, Still.box hBx.box HBN.out _ _, fun _ => rfl, rfl⟩)
  · intro ls a w2 hall hS2 hP hsl
    have h15 : ls 15 = true := hall 15 (by decide)
    obtain ⟨A, c, g1, hB2, hC2⟩ := hS2.done h15
    have hb2 := hS2.bel
    obtain ⟨vs, hvs, hfr⟩ := hP.frame 69 rfl
    clear hsl hP hall h15 hvs hS2 HADD HVR HVN HB1 HC1 HBE
    subst hfr
    dsimp only
    simp only [List.range, List.range.loop, List.map_cons, List.map_nil, List.any_cons, List.any_nil, Nat.reduceAdd, Nat.reduceBEq, Nat.reduceLT, Option.some_beq_some, Bool.or_false, if_true, if_false, List.getD_cons_zero, List.getD_cons_succ]
    have HB2 := Lib.hid hB2
    have HC2 := Lib.hid hC2
    have HBE := Lib.hid hb2
    obtain ⟨Ap, cp, rfl⟩ := owns_form hC2.par
    have hpl : P.length = s.t.length := hC.len
    have HVR : Hid (∀ r, (Value.slice Ap P.length cp).ownBlock = some r → base ≤ r ∧ r ≠ b) := Lib.hid fun r hr => ⟨(owns_block hC2.par r hr).1, fun e => by
      obtain ⟨-, C, hCC⟩ := owns_block hC2.par r hr
      rw [e, hB2.box] at hCC
      cases hCC⟩
    have HVN : Hid (∀ r, (Value.slice Ap P.length cp).ownBlock = some r → r < w2.heap.size) := Lib.hid fun r hr => owns_lt hC2.par hr
    have HBN : Hid (b < w2.heap.size) := Lib.hid hB2.lt
    have HT1 : Hid ((addS m s).t = s.t ++ [List.replicate m (-1)]) := Lib.hid rfl
    have HRO : Hid (Roots (P ++ [(P.length : Int)]) (addS m s)) := Lib.hid (by rw [hpl]; exact Roots.add hI hC.root m)
    generalize s.t ++ [List.replicate m (-1)] = t1 at *
    generalize (fun i => if i = s.t.length then g1 else bl i) = bl1 at *
    generalize (fun i => if i = s.t.length then m else cs i) = cs1 at *
    have HPAR : Hid (∀ (W : World) (h : Nat), CoreN base W t1 s.q P (.slice A (s.t.length + 1) c) (.slice Ap P.length cp) vq bl1 cs1 → Below base w W → W.heap[h]? = some (.cells #[.int .i64 (P.length : Int)] 3 (0, 0)) →
        ∃ A' c' w3, (Builtin.append_ #[22, 22] 22 #[.slice Ap P.length cp, .slice (some ⟨h, 0, none⟩) 1 1]).run Try.prog W = .ok (.slice A' (P.length + 1) c') w3 ∧ CoreN base w3 t1 s.q (P ++ [(P.length : Int)]) (.slice A (s.t.length + 1) c) (.slice A' (P.length + 1) c') vq bl1 cs1 ∧ W.grownBy w3 (Value.slice Ap P.length cp).ownBlock) := Lib.hid fun W h hN hbl h1 =>
      hN.pushP (Nat.le_trans HBW.out hbl.size) (by rw [cell_of_row _ _ _ _ _ _ h1]; rfl) (by omega)
    clear hB2 hC2 hb2
    generalize w2 = w3 at *
    go_wp2_with fail
    refine (wpIn_wide (n := 3)).1 ?_
    refine wpIn_region_all (by kernel_rfl) 15 rfl (fun i => if i < 14 then some (30 + i) else none) (lex_of (by kernel_rfl)) (fun ls W => ParS base w3.heap.size b m lim w s t1 P (.slice A (s.t.length + 1) c) (.slice Ap P.length cp) vq bl1 cs1 (ls 11) (ls 14) W)
      (ParF base w3.heap.size t1 s.q P b (.slice A (s.t.length + 1) c) (.slice Ap P.length cp) vq bl1 cs1) (Still w3.heap.size 11) (dm_inj (by kernel_rfl)) ParF.keep (dm_lt (n := 69) (by kernel_rfl)) ?_ ?_ ?_
    · have hd := (Below.refl w3.heap.size w3).drew
      exact ⟨fun _ => ⟨HB2.out.below hd, fun _ => HC2.out.below hd⟩, HBE.out.trans (hd.mono (Nat.le_trans HBW.out HBE.out.size)), hd.size, fun e => (by cases e)⟩
    · intro ls q o a w2 hq ho hS2 hls hcl hP hpre
      have hcases : q = 0 ∨ q = 1 ∨ q = 2 ∨ q = 3 ∨ q = 4 ∨ q = 5 ∨ q = 6 ∨ q = 7 ∨ q = 8 ∨ q = 9 ∨ q = 10 ∨ q = 11 ∨ q = 12 ∨ q = 13 ∨ q = 14 := by
        have : q < 15 := hq
        omega
      rcases hcases with rfl | rfl | rfl | rfl | rfl | rfl | rfl | rfl | rfl | rfl | rfl | rfl | rfl | rfl | rfl
      · obtain rfl := Option.some.inj ho
        exact wpOpIn_of rfl rfl (wpW_val (r_move (.tmp 0) rfl (hP.out 0 (dm_out (by kernel_rfl)))) ⟨_, rfl, hS2, Still.same, (fun h => by simp at h), rfl⟩)
      · obtain rfl := Option.some.inj ho
        exact wpOpIn_of rfl rfl (wpW_val (r_move (.tmp 0) rfl (hP.out 0 (dm_out (by kernel_rfl)))) ⟨_, rfl, hS2, Still.same, (fun h => by simp at h), rfl⟩)
      · obtain rfl := Option.some.inj ho
        exact wpOpIn_of rfl rfl (wpW_val (r_nil (.tmp 31) _ rfl (hpre ⟨1, .data⟩ (by simp) rfl).2) ⟨_, rfl, hS2, Still.same, (fun h => by simp at h), rfl⟩)
      · obtain rfl := Option.some.inj ho
        exact wpOpIn_of rfl rfl (wpW_val (r_fld (.tmp 32) _ rfl (hpre ⟨2, .data⟩ (by simp) rfl).2 (fld116_3 b _)) ⟨_, rfl, hS2, Still.same, (fun h => by simp at h), rfl⟩)
      · obtain rfl := Option.some.inj ho
        have h14 := not_yet hcl 14 rfl ⟨4, .phase⟩ (by simp) rfl hls
        exact wpOpIn_of rfl rfl (wpW_val (r_load1 22 agg24 (.tmp 33) ⟨b, 3, none⟩ rfl (hpre ⟨3, .data⟩ (by simp) rfl).2 (hS2.box h14).1.cells.2.2.2.1) ⟨_, rfl, hS2, Still.same, (fun h => by simp at h), rfl⟩)
      · obtain rfl := Option.some.inj ho
        exact wpOpIn_of rfl rfl (wpW_val (r_move (.tmp 0) rfl (hP.out 0 (dm_out (by kernel_rfl)))) ⟨_, rfl, hS2, Still.same, (fun h => by simp at h), rfl⟩)
      · obtain rfl := Option.some.inj ho
        exact wpOpIn_of rfl rfl (wpW_val (r_nil (.tmp 35) _ rfl (hpre ⟨5, .data⟩ (by simp) rfl).2) ⟨_, rfl, hS2, Still.same, (fun h => by simp at h), rfl⟩)
      · obtain rfl := Option.some.inj ho
        exact wpOpIn_of rfl rfl (wpW_val (r_fld (.tmp 36) _ rfl (hpre ⟨6, .data⟩ (by simp) rfl).2 (fld116_3 b _)) ⟨_, rfl, hS2, Still.same, (fun h => by simp at h), rfl⟩)
      · obtain rfl := Option.some.inj ho
        have h14 := not_yet hcl 14 rfl ⟨8, .phase⟩ (by simp) rfl hls
        exact wpOpIn_of rfl rfl (wpW_val (r_load1 22 agg24 (.tmp 37) ⟨b, 3, none⟩ rfl (hpre ⟨7, .data⟩ (by simp) rfl).2 (hS2.box h14).1.cells.2.2.2.1) ⟨_, rfl, hS2, Still.same, (fun h => by simp at h), rfl⟩)
      · obtain rfl := Option.some.inj ho
        exact wpOpIn_of rfl rfl (wpW_val (r_len (.tmp 38) 22 Ap P.length cp Try.underlying22 rfl (hpre ⟨8, .data⟩ (by simp) rfl).2) ⟨_, rfl, hS2, Still.same, (fun h => by simp at h), rfl⟩)
      · obtain rfl := Option.some.inj ho
        have h14 := not_yet hcl 14 rfl ⟨10, .phase⟩ (by simp) rfl hls
        have e9 := (hpre ⟨9, .data⟩ (by simp) rfl).2
        have hbl : Below w2.heap.size w2 (w2.alloc (.cells #[.int .i64 (P.length : Int)] 3)) := (Below.refl _ _).alloc (Nat.le_refl _) _
        exact wpOpIn_of rfl rfl (wpW_val (r_bs24 (.tmp 39) (P.length : Int) rfl e9) ⟨_, rfl, hS2.below h14 HBW.out hbl, Still.of_below hbl, (fun h => by simp at h), _, rfl, hS2.siz, heap_alloc_new w2 _⟩)
      · obtain rfl := Option.some.inj ho
        have h14 : ls 14 = false := not_yet hcl 14 rfl ⟨11, .data⟩ (by simp) rfl hls
        have e4 := (hpre ⟨4, .data⟩ (by simp) rfl).2
        obtain ⟨h7, e7, hh7, hc7⟩ := (hpre ⟨10, .data⟩ (by simp) rfl).2
        obtain ⟨A', c', w3, hrun, hC3, hgr⟩ := HPAR.out w2 h7 ((hS2.box h14).2 hls) hS2.bel hc7
        exact wpOpIn_of rfl rfl (wpW_val (r_app (.tmp 34) (.tmp 40) 22 rfl e4 e7 hrun) ⟨_, rfl, hS2.app h14 HBW.out hgr HVR.out, Still.grown hgr HVN.out, (fun h => by simp at h), A', c', rfl, hC3⟩)
      · obtain rfl := Option.some.inj ho
        exact wpOpIn_of rfl rfl (wpW_val (r_nil (.tmp 30) _ rfl (hpre ⟨0, .data⟩ (by simp) rfl).2) ⟨_, rfl, hS2, Still.same, (fun h => by simp at h), rfl⟩)
      · obtain rfl := Option.some.inj ho
        exact wpOpIn_of rfl rfl (wpW_val (r_fld (.tmp 42) _ rfl (hpre ⟨12, .data⟩ (by simp) rfl).2 (fld116_3 b _)) ⟨_, rfl, hS2, Still.same, (fun h => by simp at h), rfl⟩)
      · obtain rfl := Option.some.inj ho
        obtain ⟨A', c', e12, hC3⟩ := (hpre ⟨11, .data⟩ (by simp) rfl).2
        have hBx := (hS2.box hls).1
        rw [e12] at hC3
        exact wpOpIn_of rfl rfl (wpW_skip (r_store1 22 (.tmp 43) (.tmp 41) ⟨b, 3, none⟩ _ _ rfl (hpre ⟨13, .data⟩ (by simp) rfl).2 e12 rfl hBx.cells.2.2.2.1 (hBx.frozen 3) (st24 _ _ A' _ c' hBx.cells.2.2.2.1 (hBx.frozen 3))) ⟨undef, rfl, hS2.fin hls HBB.out hC3, Still.box hBx.box HBN.out _ _, fun _ => rfl, rfl⟩)
    · intro ls a w4 hall hS2 hP hsl
      have h14 : ls 14 = true := hall 14 (by decide)
      obtain ⟨A2, c2', hB4, hC4⟩ := hS2.done h14
      have hb4 := hS2.bel
      obtain ⟨vs2, hvs, hfr⟩ := hP.frame 69 rfl
      clear hsl hP hall h14 hvs hS2 HPAR HVR HVN HB2 HC2 HBE HBN
      subst hfr
      dsimp only
      simp only [List.range, List.range.loop, List.map_cons, List.map_nil, List.any_cons, List.any_nil, Nat.reduceAdd, Nat.reduceBEq, Nat.reduceLT, Option.some_beq_some, Bool.or_false, if_true, if_false, List.getD_cons_zero, List.getD_cons_succ]
      have hB5 := hB4.upd5 (s' := { s with live := s.live + 1 }) (z := s.live + 1) rfl rfl
      have hC5 := hC4.other hB4.box (by decide) (by decide) 5 (.int .i64 (s.live + 1))
      have hb5 := hb4.setCell HBB.out (.int .i64 (s.live + 1)) (p := ⟨b, 5, none⟩)
      obtain ⟨-, -, -, -, -, c5, -⟩ := hB4.cells
      have f5 := hB4.frozen 5
      have hd := (Below.refl (w4.setCell ⟨b, 5, none⟩ (.int .i64 (s.live + 1))).heap.size (w4.setCell ⟨b, 5, none⟩ (.int .i64 (s.live + 1)))).drew
      have hB6 := hB5.below hd
      have hC6 := hC5.below hd
      have hb6 := hb5.trans (hd.mono (Nat.le_trans HBW.out hb5.size))
      have HC6 := Lib.hid hB6.cells.2.2.2.2.2.2
      have HC5 := Lib.hid hB6.cells.2.2.2.2.2.1
      have HF6 := Lib.hid (hB6.frozen 6)
      have hB7 := hB6.upd6 (s' := addS m s) (z := max s.most (s.live + 1)) rfl rfl
      have hC7 := hC6.other hB6.box (by decide) (by decide) 6 (.int .i64 (max s.most (s.live + 1)))
      have hb7 := hb6.setCell HBB.out (.int .i64 (max s.most (s.live + 1))) (p := ⟨b, 6, none⟩)
      obtain ⟨-, -, -, c8, -, -, -⟩ := hB7.cells
      have HST : Hid (StP base b m lim ((w4.setCell ⟨b, 5, none⟩ (.int .i64 (s.live + 1))).drew.setCell ⟨b, 6, none⟩ (.int .i64 (max s.most (s.live + 1)))) (addS m s)) := Lib.hid ⟨HBB.out, _, _, _, vq, bl1, cs1, hB7, CoreN.toM (s := addS m s) (by rw [HT1.out]; exact hC7) HRO.out⟩
      have HBE := Lib.hid hb7
      have hp0 : (0 : Int) ≤ (P.length : Int) := Int.natCast_nonneg _
      have hp1 : (P.length : Int) ≤ 1000000 := by omega
      clear hB4 hC4 hb4 hB5 hC5 hb5 hd hB6 hC6 hb6 hB7 hC7 hb7 HT1 HRO hC c1 c2
      go_wp2_with fail
      refine (wpIn_wide (n := 3)).1 ?_
      generalize hw5 : w4.setCell ⟨b, 5, none⟩ (.int .i64 (s.live + 1)) = w5 at *
      refine wpIn_region_all (by kernel_rfl) 13 rfl (fun i => if i < 12 then some (51 + i) else none) (lex_of (by kernel_rfl)) (fun ls W => W = bif ls 12 then w5.drew.setCell ⟨b, 6, none⟩ (.int .i64 (max s.most (s.live + 1))) else w5.drew)
        (fun i v _ => v = ([.pointer (some ⟨b, 0, none⟩), .pointer (some ⟨b, 0, none⟩), .pointer (some ⟨b, 0, none⟩), .pointer (some ⟨b, 6, none⟩), .int .i64 s.most, .pointer (some ⟨b, 0, none⟩), .pointer (some ⟨b, 0, none⟩), .pointer (some ⟨b, 5, none⟩), .int .i64 (s.live + 1), .int .i64 (max s.most (s.live + 1)), .pointer (some ⟨b, 0, none⟩), .pointer (some ⟨b, 6, none⟩), undef] : List Value).getD i undef) (fun _ _ _ => True) (dm_inj (by kernel_rfl)) (fun _ _ _ _ _ _ _ _ _ h => h) (dm_lt (n := 69) (by kernel_rfl)) rfl ?_ ?_
      · intro ls q o a w2 hq ho hS2 hls hcl hP hpre
        have hcases : q = 0 ∨ q = 1 ∨ q = 2 ∨ q = 3 ∨ q = 4 ∨ q = 5 ∨ q = 6 ∨ q = 7 ∨ q = 8 ∨ q = 9 ∨ q = 10 ∨ q = 11 ∨ q = 12 := by
          have : q < 13 := hq
          omega
        rcases hcases with rfl | rfl | rfl | rfl | rfl | rfl | rfl | rfl | rfl | rfl | rfl | rfl | rfl
        · obtain rfl := Option.some.inj ho
          exact wpOpIn_of rfl rfl (wpW_val (r_move (.tmp 0) rfl (hP.out 0 (dm_out (by kernel_rfl)))) ⟨_, rfl, hS2, trivial, (fun h => by simp at h), rfl⟩)
        · obtain rfl := Option.some.inj ho
          exact wpOpIn_of rfl rfl (wpW_val (r_move (.tmp 0) rfl (hP.out 0 (dm_out (by kernel_rfl)))) ⟨_, rfl, hS2, trivial, (fun h => by simp at h), rfl⟩)
        · obtain rfl := Option.some.inj ho
          exact wpOpIn_of rfl rfl (wpW_val (r_nil (.tmp 52) _ rfl (hpre ⟨1, .data⟩ (by simp) rfl).2) ⟨_, rfl, hS2, trivial, (fun h => by simp at h), rfl⟩)
        · obtain rfl := Option.some.inj ho
          exact wpOpIn_of rfl rfl (wpW_val (r_fld (.tmp 53) _ rfl (hpre ⟨2, .data⟩ (by simp) rfl).2 (fld116_6 b _)) ⟨_, rfl, hS2, trivial, (fun h => by simp at h), rfl⟩)
        · obtain rfl := Option.some.inj ho
          have h12 := not_yet hcl 12 rfl ⟨4, .phase⟩ (by simp) rfl hls
          have hW := sel1 hS2 h12
          exact wpOpIn_of rfl rfl (wpW_val (r_load1 3 agg3 (.tmp 54) ⟨b, 6, none⟩ rfl (hpre ⟨3, .data⟩ (by simp) rfl).2 (by rw [hW]; exact HC6.out)) ⟨_, rfl, hS2, trivial, (fun h => by simp at h), rfl⟩)
        · obtain rfl := Option.some.inj ho
          exact wpOpIn_of rfl rfl (wpW_val (r_move (.tmp 0) rfl (hP.out 0 (dm_out (by kernel_rfl)))) ⟨_, rfl, hS2, trivial, (fun h => by simp at h), rfl⟩)
        · obtain rfl := Option.some.inj ho
          exact wpOpIn_of rfl rfl (wpW_val (r_nil (.tmp 56) _ rfl (hpre ⟨5, .data⟩ (by simp) rfl).2) ⟨_, rfl, hS2, trivial, (fun h => by simp at h), rfl⟩)
        · obtain rfl := Option.some.inj ho
          exact wpOpIn_of rfl rfl (wpW_val (r_fld (.tmp 57) _ rfl (hpre ⟨6, .data⟩ (by simp) rfl).2 (fld116_5 b _)) ⟨_, rfl, hS2, trivial, (fun h => by simp at h), rfl⟩)
        · obtain rfl := Option.some.inj ho
          have h12 := not_yet hcl 12 rfl ⟨8, .phase⟩ (by simp) rfl hls
          have hW := sel1 hS2 h12
          exact wpOpIn_of rfl rfl (wpW_val (r_load1 3 agg3 (.tmp 58) ⟨b, 5, none⟩ rfl (hpre ⟨7, .data⟩ (by simp) rfl).2 (by rw [hW]; exact HC5.out)) ⟨_, rfl, hS2, trivial, (fun h => by simp at h), rfl⟩)
        · obtain rfl := Option.some.inj ho
          exact wpOpIn_of rfl rfl (wpW_val (r_max2 (.tmp 55) (.tmp 59) s.most (s.live + 1) _ rfl (hpre ⟨4, .data⟩ (by simp) rfl).2 (hpre ⟨8, .data⟩ (by simp) rfl).2 rfl) ⟨_, rfl, hS2, trivial, (fun h => by simp at h), rfl⟩)
        · obtain rfl := Option.some.inj ho
          exact wpOpIn_of rfl rfl (wpW_val (r_nil (.tmp 51) _ rfl (hpre ⟨0, .data⟩ (by simp) rfl).2) ⟨_, rfl, hS2, trivial, (fun h => by simp at h), rfl⟩)
        · obtain rfl := Option.some.inj ho
          exact wpOpIn_of rfl rfl (wpW_val (r_fld (.tmp 61) _ rfl (hpre ⟨10, .data⟩ (by simp) rfl).2 (fld116_6 b _)) ⟨_, rfl, hS2, trivial, (fun h => by simp at h), rfl⟩)
        · obtain rfl := Option.some.inj ho
          have hW := sel1 hS2 hls
          subst hW
          exact wpOpIn_of rfl rfl (wpW_skip (r_store1 3 (.tmp 62) (.tmp 60) ⟨b, 6, none⟩ _ _ rfl (hpre ⟨11, .data⟩ (by simp) rfl).2 (hpre ⟨9, .data⟩ (by simp) rfl).2 rfl HC6.out HF6.out (st3 _ _ _ HC6.out HF6.out)) ⟨undef, rfl, rfl, trivial, fun _ => rfl, rfl⟩)
      · intro ls a w6 hall hS2 hP hsl
        have h12 : ls 12 = true := hall 12 (by decide)
        rw [h12] at hS2
        obtain ⟨vs3, hvs, hfr⟩ := hP.frame 69 rfl
        clear hsl hP hall h12 hvs HC6 HC5 HF6 hw5
        subst hfr
        change w6 = w5.drew.setCell ⟨b, 6, none⟩ (.int .i64 (max s.most (s.live + 1))) at hS2
        rw [← hS2] at c8 HST HBE
        clear hS2
        dsimp only
        simp only [List.range, List.range.loop, List.map_cons, List.map_nil, List.any_cons, List.any_nil, Nat.reduceAdd, Nat.reduceBEq, Nat.reduceLT, Option.some_beq_some, Bool.or_false, if_true, if_false, List.getD_cons_zero, List.getD_cons_succ]
        go_wp2_with fail
        go_ret
        exact ⟨ret_int (by omega), HST.out, HBE.out⟩
end Go.Proofs.B18
namespace Go.Proofs.B18
open Go.RowKit Go.Shelf Go.Proofs.Ct Go.Maps
/-- what the panic of a full table carries -/
def fullP : List PanicEntry := [{ v := .iface 127 (.agg #[]), recovered := false }]
set_option maxRecDepth 100000 in
set_option maxHeartbeats 4000000 in
theorem add126_full (m base b : Nat) (w : World) (s : St) (hS : StP base b m s.t.length w s) (hbw : base ≤ w.heap.size) (hn : s.t.length ≤ 1000000) :
    Calls Try.prog 102 #[.pointer (some ⟨b, 0, none⟩)] w fun e w' => e = .panicked fullP ∧ Below base w w' := by
  obtain ⟨hb, P, vr, vp, vq, bl, cs, hB, hC⟩ := hS
  obtain ⟨Ar, cr, rfl⟩ := owns_form hC.out
  obtain ⟨-, c1, c2, -, -, -, -⟩ := hB.cells
  have hn0 : (s.t.length : Int) ≤ 1000000 := by omega
  have d1 : ((s.t.length : Int) == (s.t.length : Int)) = true := by simp
  clear hC hB
  go_enter Try.func102, Try.ntmps102
  go_wp2_with fail
  go_region
  go_wp2_with fail
  exact ⟨rfl, rfl, (Below.refl w.heap.size w).drew.mono hbw⟩
set_option maxRecDepth 100000 in
set_option maxHeartbeats 4000000 in
theorem define128_any (g m base b lim r c : Nat) (hm : m = 2 * g) (hg : g ≤ 16) (w : World) (s : St) (hR : Ct.Rest g s) (hS : StP base b m lim w s) (hbw : base ≤ w.heap.size) (hn : s.t.length + 1 ≤ 1000000) (hr : r < s.t.length) (hc : c < m) (hne : s.t.length ≠ lim) :
    Calls Try.prog 104 #[.pointer (some ⟨b, 0, none⟩), .int .i64 (r : Int), .int .i64 (c : Int)] w fun e w' => e = .returned (.tuple #[]) ∧ StP base b m lim w' (defS m s r c) ∧ Below base w w' := by
  have hlv : -1000000 ≤ s.live ∧ s.live ≤ 1000000 := by
    have h1 := hR.lv
    have h2 := dc_le s
    omega
  have HA := Lib.hid (add126_any g m base b lim (by omega) w s hR.inv hS hbw (by omega) hlv.1 hlv.2 hne)
  have HI : Hid (Inv g (addS m s)) := Lib.hid (by rw [hm]; exact hR.add.inv)
  have hlen : (addS m s).t.length = s.t.length + 1 := length_add m
  have HJ : Hid (∀ W, StP base b m lim W (addS m s) → base ≤ W.heap.size → Calls Try.prog 112 #[.pointer (some ⟨b, 0, none⟩), .int .i64 (r : Int), .int .i64 (c : Int), .int .i64 (s.t.length : Int)] W fun e w' => e = .returned (.tuple #[]) ∧ StP base b m lim w' (defS m s r c) ∧ Below base W w') := Lib.hid fun W h hw =>
    join149_any g base b m lim r c s.t.length W (addS m s) HI.out hg h hw (by omega) (by omega) (by omega) (by omega)
  have HBW := Lib.hid hbw
  clear hS hR hbw
  go_enter Try.func104, Try.ntmps104
  go_wp2_with (first
    | (go_at_call 102; (with_reducible refine HA.out.mono ?_); rintro E w1 ⟨rfl, hs1, hb1⟩
       have HS1 := Lib.hid hs1
       have HB1 := Lib.hid hb1
       clear hs1 hb1)
    | (go_at_call 112; (with_reducible refine (HJ.out _ HS1.out (Nat.le_trans HBW.out HB1.out.size)).mono ?_); rintro E w2 ⟨rfl, hs2, hb2⟩
       have HS2 := Lib.hid hs2
       have HB2 := Lib.hid hb2
       clear hs2 hb2))
  try simp only [Exit.inBlock, Exit.then]
  go_end0
  exact ⟨rfl, HS2.out, HB1.out.trans HB2.out⟩
set_option maxRecDepth 100000 in
set_option maxHeartbeats 4000000 in
theorem define128_full (m base b r c : Nat) (w : World) (s : St) (hS : StP base b m s.t.length w s) (hbw : base ≤ w.heap.size) (hn : s.t.length ≤ 1000000) :
    Calls Try.prog 104 #[.pointer (some ⟨b, 0, none⟩), .int .i64 (r : Int), .int .i64 (c : Int)] w fun e w' => e = .panicked fullP ∧ Below base w w' := by
  have HA := Lib.hid (add126_full m base b w s hS hbw hn)
  clear hS hbw
  go_enter Try.func104, Try.ntmps104
  go_wp2_with (first
    | (go_at_call 102; (with_reducible refine HA.out.mono ?_); rintro E w1 ⟨rfl, hb1⟩
       have HB1 := Lib.hid hb1
       clear hb1))
  exact ⟨rfl, rfl, HB1.out⟩
end Go.Proofs.B18
namespace Go.Proofs.B18
open Go.RowKit Go.Shelf Go.Proofs.Ct Go.Maps
theorem StP.below {base b m lim : Nat} {w w' : World} {s : St} (hS : StP base b m lim w s) (hb : Below w.heap.size w w') : StP base b m lim w' s := by
  obtain ⟨h, P, vr, vp, vq, bl, cs, hB, hC⟩ := hS
  exact ⟨h, P, vr, vp, vq, bl, cs, hB.below hb, hC.below hb⟩
/-- what a scan hands back -/
def openV : Option (Nat × Nat) → Value
  | none => .tuple #[.int .i64 0, .int .i64 0, .bool false]
  | some (f, c) => .tuple #[.int .i64 (f : Int), .int .i64 (c : Int), .bool true]
set_option maxRecDepth 100000 in
set_option maxHeartbeats 4000000 in
theorem scan147_any (g m base b lim r : Nat) (hm : m = 2 * g) (hg : g ≤ 16) (w : World) (s : St) (u : Value) (ws : W) (hR : Ct.Rest g s) (hS : StP base b m lim w s) (hbw : base ≤ w.heap.size) (hn : s.t.length ≤ 1000000) (hu : IntsAt w u ws) (hl : LOk g ws) (hr : r < s.t.length) (hlr : s.rp r = r) :
    Calls Try.prog 110 #[.pointer (some ⟨b, 0, none⟩), .int .i64 (r : Int), u] w fun e w' => e = .returned (openV (scanS m s r ws).2) ∧ StP base b m lim w' (scanS m s r ws).1 ∧ Below base w w' := by
  obtain ⟨Au, cu, rfl, hu1, hu2, hu3⟩ := hu.open_
  have HU := Lib.hid hu3
  have HR := Lib.hid hR
  have HL := Lib.hid hl
  have HLI := Lib.hid hl.inv
  have HM := Lib.hid hm
  have HBW := Lib.hid hbw
  have HS : Hid (∀ q, StP base b m lim (w.drewN q) s) := Lib.hid fun q => hS.below (below_drewN (Below.refl _ _) q)
  have HBE : Hid (∀ q, Below base w (w.drewN q)) := Lib.hid fun q => below_drewN (Below.refl _ _) q
  have HAT : Hid (∀ r c, r < s.t.length → c < 2 * g → ∃ gr cr br k, w.cell? ⟨b, 2, none⟩ = some (.slice (some ⟨gr, 0, none⟩) s.t.length cr) ∧ w.cell? ⟨gr, r, none⟩ = some (.slice (some ⟨br, 0, none⟩) m k) ∧ w.cell? ⟨br, c, none⟩ = some (.int .i64 (s.t.at r c))) := Lib.hid fun r c h1 h2 => by
    obtain ⟨gr, cr, br, k, a1, a2, a3⟩ := hS.at_ hR.inv h1 h2
    rw [← hm] at a2
    exact ⟨gr, cr, br, k, a1, a2, a3⟩
  have HCO : Hid (∀ (x : Int) n, -(g : Int) ≤ x ∧ x ≤ g ∧ x ≠ 0 → Calls Try.prog 115 #[.int .i64 x] (w.drewN n) fun e w' => e = .returned (.int .i64 (col x : Nat)) ∧ w.drewN n = w') := Lib.hid fun x n h => col133_any _ _ (by omega)
  have HLV : Hid (∀ k, k ≤ ws.length → 0 ≤ leadTo s.t r ws k → (leadTo s.t r ws k).toNat < s.t.length) := Lib.hid fun k h1 h2 => (lead_live hR hl hr hlr k h1 h2).1
  have HLB : Hid (∀ k, k ≤ ws.length → 0 ≤ leadTo s.t r (Ct.inv ws) k → (leadTo s.t r (Ct.inv ws) k).toNat < s.t.length) := Lib.hid fun k h1 h2 => (lead_live hR hl.inv hr hlr k (by rw [length_inv]; exact h1) h2).1
  have HCN : Hid (∀ q x y, x < s.t.length → y < s.t.length → Calls Try.prog 116 #[.pointer (some ⟨b, 0, none⟩), .int .i64 (x : Int), .int .i64 (y : Int)] (w.drewN q) fun e w' => e = .returned (.tuple #[]) ∧ StP base b m lim w' (coinS m s x y) ∧ Below base (w.drewN q) w') := Lib.hid fun q x y h1 h2 =>
    coincide152_any g m base b lim x y hm _ s hR hg (HS.out q) (Nat.le_trans hbw (HBE.out q).size) h1 h2 hn
  have HJO : Hid (∀ q x c y, x < s.t.length → y < s.t.length → c < 2 * g → Calls Try.prog 112 #[.pointer (some ⟨b, 0, none⟩), .int .i64 (x : Int), .int .i64 (c : Int), .int .i64 (y : Int)] (w.drewN q) fun e w' => e = .returned (.tuple #[]) ∧ StP base b m lim w' (joinS s x c y) ∧ Below base (w.drewN q) w') := Lib.hid fun q x c y h1 h2 h3 =>
    join149_any g base b m lim x c y _ s hR.inv hg (HS.out q) (Nat.le_trans hbw (HBE.out q).size) h1 h2 h3 hn
  have hr0 : (0 : Int) ≤ (r : Int) := Int.natCast_nonneg _
  have hn0 : (s.t.length : Int) ≤ 1000000 := by omega
  have hws0 : (0 : Int) ≤ (ws.length : Int) := Int.natCast_nonneg _
  have hws1 : (ws.length : Int) ≤ 9223372036854775807 := by omega
  have HRB := Lib.hid (hR.inv.bd)
  clear hS hu hu3 hR hl hm hbw
  go_enter Try.func110, Try.ntmps110
  go_wp2_with fail
  go_loopw [6, 9] (fun f i wr => ∃ k z : Nat, i = .int .i64 k ∧ k ≤ ws.length ∧ f = .int .i64 (z : Int) ∧ z < s.t.length ∧ Hid ((z : Int) = leadTo s.t r ws k) ∧ Hid (∀ j, j < k → 0 ≤ leadTo s.t r ws (j + 1)) ∧ ∃ q, wr = w.drewN q) (fun _ i _ => ws.length - (intOf i).toNat)
  case atStart => exact ⟨0, r, rfl, by omega, rfl, hr, Lib.hid rfl, Lib.hid fun j hj => absurd hj (by omega), 0, rfl⟩
  case round =>
    obtain ⟨k, z, rfl, hk, rfl, hz, HZ, HJ, q, rfl⟩ := hrel
    have hk0 : (0 : Int) ≤ (k : Int) := Int.natCast_nonneg _
    have hz0 : (0 : Int) ≤ (z : Int) := Int.natCast_nonneg _
    have hzI : (z : Int) < (s.t.length : Int) := by omega
    by_cases hlt : k < ws.length
    · have hlt' : (k : Int) < (ws.length : Int) := by omega
      obtain ⟨bw, ow, rfl, hcc⟩ := HU.out (by omega)
      have hcc0 := Lib.hid hcc
      have hck := hcc k hlt
      have hx := HL.out.getD hlt
      have hcx := HL.out.col hlt
      obtain ⟨gr, cr, br, kr, a1, a2, a3⟩ := HAT.out z (col (ws.getD k 0)) hz hcx
      have HNX : Hid (leadTo s.t r ws (k + 1) = s.t.at z (col (ws.getD k 0))) := Lib.hid (by
        rw [leadTo_succ, ← HZ.out, if_neg (by omega), Int.toNat_natCast])
      have hbd := HRB.out z hz _ hcx
      have HC1 : Hid (∀ n, Calls Try.prog 115 #[.int .i64 (ws.getD k 0)] (w.drewN n) fun e w' => e = .returned (.int .i64 (col (ws.getD k 0) : Nat)) ∧ w.drewN n = w') := Lib.hid fun n => HCO.out _ n hx
      have hc0 : (0 : Int) ≤ ((col (ws.getD k 0) : Nat) : Int) := Int.natCast_nonneg _
      have hc1 : ((col (ws.getD k 0) : Nat) : Int) < (m : Int) := by have := HM.out; omega
      clear hcc hx
      by_cases hy : s.t.at z (col (ws.getD k 0)) < 0
      · have HK : Hid (leadTo s.t r ws (k + 1) < 0) := Lib.hid (by rw [HNX.out]; exact hy)
        have HF : Hid (fwd s.t r ws = k) := Lib.hid (fwd_eq (by omega) (.inr HK.out) HJ.out)
        have d1 : ((k : Int) == (ws.length : Int)) = false := by rw [beq_eq_false_iff_ne]; omega
        have HX0 := Lib.hid hcx
        obtain ⟨hy1, hy2⟩ := hbd
        generalize s.t.at z (col (ws.getD k 0)) = y at *
        generalize hce : col (ws.getD k 0) = cx at *
        have HCE := Lib.hid hce
        clear hce
        generalize hxe : ws.getD k 0 = x at *
        have HXQ := Lib.hid hxe
        clear hxe
        go_wp2_with fail
        go_quiet ((go_at_call 115; exact quiet_add_left (HC1.out _)))
        go_wp2_with fail
        go_loopw [10, 11] (fun bb jj wr => ∃ (p v : Nat) (J : Int), p ≤ ws.length ∧ jj = .int .i64 J ∧ J = (ws.length : Int) - 1 - p ∧ bb = .int .i64 (v : Int) ∧ v < s.t.length ∧ Hid ((v : Int) = leadTo s.t r (Ct.inv ws) p) ∧ Hid (∀ j, j < p → k + j < ws.length ∧ 0 ≤ leadTo s.t r (Ct.inv ws) (j + 1)) ∧ ∃ q, wr = w.drewN q) (fun _ j _ => (intOf j + 1).toNat)
        case atStart => exact ⟨0, r, _, by omega, rfl, by omega, rfl, hr, Lib.hid rfl, Lib.hid fun j hj => absurd hj (by omega), (by first | exact ⟨_, rfl⟩ | exact ex_drewN)⟩
        case round =>
          obtain ⟨p, v, J, hp, rfl, hJ, rfl, hv, HV, HP, q2, rfl⟩ := hrel
          have hv0 : (0 : Int) ≤ (v : Int) := Int.natCast_nonneg _
          have hvI : (v : Int) < (s.t.length : Int) := by omega
          have hzne : ¬ fwd s.t r ws = ws.length := by rw [HF.out]; omega
          by_cases hkp : k + p < ws.length
          · obtain ⟨jn, rfl⟩ : ∃ jn : Nat, J = (jn : Int) := ⟨ws.length - 1 - p, by omega⟩
            have hjn : jn = ws.length - 1 - p := by omega
            have hjl : jn < ws.length := by omega
            have hj0 : (0 : Int) ≤ (jn : Int) := Int.natCast_nonneg _
            have hj1 : (jn : Int) < (ws.length : Int) := by omega
            have hj2 : (k : Int) ≤ (jn : Int) := by omega
            have d3 : decide ((k : Int) ≤ (jn : Int)) = true := decide_eq_true hj2
            have hcj := hcc0.out jn hjl
            have hx2 := HL.out.getD hjl
            have hx2n : -(g : Int) ≤ -(ws.getD jn 0) ∧ -(ws.getD jn 0) ≤ g ∧ -(ws.getD jn 0) ≠ 0 := by omega
            have hcx2 : col (-(ws.getD jn 0)) < 2 * g := by
              rw [col_inv hx2.2.2]
              exact flp_lt2 (HL.out.col hjl)
            obtain ⟨gr2, cr2, br2, kr2, b1, b2, b3⟩ := HAT.out v (col (-(ws.getD jn 0))) hv hcx2
            rw [a1] at b1
            injection b1 with b1
            injection b1 with b1 e2 e3
            injection b1 with b1
            injection b1 with b1
            subst b1
            clear e2 e3
            have HNX2 : Hid (leadTo s.t r (Ct.inv ws) (p + 1) = s.t.at v (col (-(ws.getD jn 0)))) := Lib.hid (by
              rw [leadTo_succ, ← HV.out, if_neg (by omega), Int.toNat_natCast, inv_getD (by omega), ← hjn])
            have hbd2 := HRB.out v hv _ hcx2
            have HC2 : Hid (∀ n, Calls Try.prog 115 #[.int .i64 (-(ws.getD jn 0))] (w.drewN n) fun e w' => e = .returned (.int .i64 (col (-(ws.getD jn 0)) : Nat)) ∧ w.drewN n = w') := Lib.hid fun n => HCO.out _ n hx2n
            have hd0 : (0 : Int) ≤ ((col (-(ws.getD jn 0)) : Nat) : Int) := Int.natCast_nonneg _
            have hd1 : ((col (-(ws.getD jn 0)) : Nat) : Int) < (m : Int) := by have := HM.out; omega
            clear hx2n hcx2
            generalize col (-(ws.getD jn 0)) = cx2 at *
            generalize ws.getD jn 0 = x2 at *
            obtain ⟨hx3, hx4, -⟩ := hx2
            have hx5 : -16 ≤ x2 := by omega
            have hx6 : x2 ≤ 16 := by omega
            obtain ⟨hy3, hy4⟩ := hbd2
            by_cases hyy : s.t.at v cx2 < 0
            · have HB : Hid (bwd s.t r ws k = p) := Lib.hid (bwd_eq hp (.inr (by rw [HNX2.out]; exact hyy)) HP.out)
              have hwr : IntKind.i64.wrap (-x2) = -x2 := IntWalk.i64_in _ (by omega)
              have HBV := Lib.hid HV.out
              have hzz : (leadTo s.t r ws k).toNat = z := by rw [← HZ.out]; rfl
              have hvv : (leadTo s.t r (Ct.inv ws) p).toNat = v := by rw [← HV.out]; rfl
              have hnle : ¬ ws.length ≤ k + p := by omega
              by_cases hjk : jn = k
              · have HSC : Hid (scanS m s r ws = (joinS s z cx v, none)) := Lib.hid (by
                  unfold scanS
                  rw [if_neg hzne, HF.out, HB.out, if_neg hnle, if_pos (by omega), hzz, hvv, HXQ.out, HCE.out])
                have d4 : ((jn : Int) == (k : Int)) = true := by rw [hjk]; simp
                have d5 : decide ((jn : Int) < (k : Int)) = false := by simp; omega
                have HJ2 := Lib.hid fun q => HJO.out q z cx v hz hv HX0.out
                clear hzne hzz hvv hnle hjn hJ hjk
                go_wp2_with fail
                go_quiet ((go_at_call 115; exact quiet_add_left (HC2.out _)))
                go_wp2_with (first
                  | (go_at_call 115; (with_reducible refine (HC1.out _).mono ?_); rintro E w1 ⟨rfl, rfl⟩)
                  | (go_at_call 112; (with_reducible refine (HJ2.out _).mono ?_); rintro E w1 ⟨rfl, hs1, hb1⟩
                     have HS1 := Lib.hid hs1
                     have HB1 := Lib.hid hb1
                     clear hs1 hb1))
                try simp only [Exit.inBlock, Exit.then]
                refine bodyPost_ret (results_tmp3 rfl _ _ _) rfl ?_
                exact ⟨by rw [HSC.out]; rfl, by rw [HSC.out]; exact HS1.out, (HBE.out _).trans HB1.out⟩
              · have HSC : Hid (scanS m s r ws = (s, some (z, cx))) := Lib.hid (by
                  unfold scanS
                  rw [if_neg hzne, HF.out, HB.out, if_neg hnle, if_neg (by omega), hzz, HXQ.out, HCE.out])
                have d4 : ((jn : Int) == (k : Int)) = false := by rw [beq_eq_false_iff_ne]; omega
                have d5 : decide ((jn : Int) < (k : Int)) = false := by simp; omega
                clear hzne hzz hvv hnle hjn hJ hjk
                go_wp2_with fail
                go_quiet ((go_at_call 115; exact quiet_add_left (HC2.out _)))
                go_wp2_with (first
                  | (go_at_call 115; (with_reducible refine (HC1.out _).mono ?_); rintro E w1 ⟨rfl, rfl⟩))
                try simp only [Exit.inBlock, Exit.then]
                refine bodyPost_ret (results_tmp3 rfl _ _ _) rfl ?_
                exact ⟨by rw [HSC.out]; rfl, by rw [HSC.out]; exact HS.out _, HBE.out _⟩
            · obtain ⟨v', hv'⟩ : ∃ v' : Nat, s.t.at v cx2 = v' := ⟨(s.t.at v cx2).toNat, by omega⟩
              rw [hv'] at b3 HNX2 hy4
              have HJN : Hid ((jn : Int) = (ws.length : Int) - 1 - p) := Lib.hid (by omega)
              clear hyy hv' hjn hJ
              have hv1 : (0 : Int) ≤ (v' : Int) := Int.natCast_nonneg _
              have hwr : IntKind.i64.wrap (-x2) = -x2 := IntWalk.i64_in _ (by omega)
              go_wp2_with fail
              go_quiet ((go_at_call 115; exact quiet_add_left (HC2.out _)))
              go_wp2_with fail
              go_quiet ((go_at_call 115; exact quiet_add_left (HC2.out _)))
              go_wp2_with fail
              go_roundw
              case rel => exact ⟨p + 1, v', _, by omega, rfl, by have := HJN.out; omega, rfl, by omega, Lib.hid HNX2.out.symm, Lib.hid (all_succ HP.out ⟨hkp, by rw [HNX2.out]; omega⟩), (by first | exact ⟨_, rfl⟩ | exact ex_drewN)⟩
              case measure => simp [intOf]
          · have HB : Hid (bwd s.t r ws k = p) := Lib.hid (bwd_eq hp (.inl (by omega)) HP.out)
            have hzz : (leadTo s.t r ws k).toNat = z := by rw [← HZ.out]; rfl
            have hvv : (leadTo s.t r (Ct.inv ws) p).toNat = v := by rw [← HV.out]; rfl
            have HSC : Hid (scanS m s r ws = (coinS m s z v, none)) := Lib.hid (by
              unfold scanS
              rw [if_neg hzne, HF.out, HB.out, if_pos (by omega), hzz, hvv])
            have hJk : J < (k : Int) := by omega
            have d3 : decide ((k : Int) ≤ J) = false := by simp; omega
            have d5 : decide (J < (k : Int)) = true := by simp; omega
            have HC3 := Lib.hid fun q => HCN.out q z v hz hv
            clear hzne hzz hvv hkp hJ
            go_wp2_with fail
            go_quiet (fail)
            go_wp2_with (first
              | (go_at_call 116; (with_reducible refine (HC3.out _).mono ?_); rintro E w1 ⟨rfl, hs1, hb1⟩
                 have HS1 := Lib.hid hs1
                 have HB1 := Lib.hid hb1
                 clear hs1 hb1))
            try simp only [Exit.inBlock, Exit.then]
            refine bodyPost_ret (results_tmp3 rfl _ _ _) rfl ?_
            exact ⟨by rw [HSC.out]; rfl, by rw [HSC.out]; exact HS1.out, (HBE.out _).trans HB1.out⟩
      · obtain ⟨z', hz'⟩ : ∃ z' : Nat, s.t.at z (col (ws.getD k 0)) = z' := ⟨(s.t.at z (col (ws.getD k 0))).toNat, by omega⟩
        rw [hz'] at a3 hbd HNX
        clear hy hz'
        generalize col (ws.getD k 0) = cx at *
        generalize ws.getD k 0 = x at *
        obtain ⟨hy1, hy2⟩ := hbd
        have hz1 : (0 : Int) ≤ (z' : Int) := Int.natCast_nonneg _
        go_wp2_with fail
        go_quiet ((go_at_call 115; exact quiet_add_left (HC1.out _)))
        go_wp2_with fail
        go_quiet ((go_at_call 115; exact quiet_add_left (HC1.out _)))
        go_wp2_with fail
        go_roundw
        case rel => exact ⟨k + 1, z', by go_num, by omega, rfl, by omega, Lib.hid HNX.out.symm, all_succ HJ.out (by rw [HNX.out]; omega), (by first | exact ⟨_, rfl⟩ | exact ex_drewN)⟩
        case measure => simp [intOf]; omega
    · obtain rfl : k = ws.length := by omega
      have HF : Hid (fwd s.t r ws = ws.length) := Lib.hid (fwd_eq (Nat.le_refl _) (.inl rfl) HJ.out)
      by_cases hzr : z = r
      · have HSC : Hid (scanS m s r ws = (s, none)) := Lib.hid (by unfold scanS; rw [if_pos HF.out, HF.out, ← HZ.out, if_pos (by rw [hzr])])
        have d1 : ((z : Int) != (r : Int)) = false := by rw [hzr]; simp
        have d2 : ((ws.length : Int) == (ws.length : Int)) = true := by simp
        clear hlt
        go_wp2_with fail
        go_quiet (fail)
        go_wp2_with fail
        try simp only [Exit.inBlock, Exit.then]
        refine bodyPost_ret (results_tmp3 rfl _ _ _) rfl ?_
        exact ⟨by rw [HSC.out]; rfl, by rw [HSC.out]; exact HS.out _, HBE.out _⟩
      · have HSC : Hid (scanS m s r ws = (coinS m s z r, none)) := Lib.hid (by unfold scanS; rw [if_pos HF.out, HF.out, ← HZ.out, if_neg (by omega), Int.toNat_natCast])
        have d1 : ((z : Int) != (r : Int)) = true := by simp; omega
        have d2 : ((ws.length : Int) == (ws.length : Int)) = true := by simp
        clear hlt
        have HC2 := Lib.hid fun q => HCN.out q z r hz hr
        go_wp2_with fail
        go_quiet (fail)
        go_wp2_with (first
          | (go_at_call 116; (with_reducible refine (HC2.out _).mono ?_); rintro E w1 ⟨rfl, hs1, hb1⟩
             have HS1 := Lib.hid hs1
             have HB1 := Lib.hid hb1
             clear hs1 hb1))
        try simp only [Exit.inBlock, Exit.then]
        refine bodyPost_ret (results_tmp3 rfl _ _ _) rfl ?_
        exact ⟨by rw [HSC.out]; rfl, by rw [HSC.out]; exact HS1.out, (HBE.out _).trans HB1.out⟩
end Go.Proofs.B18
