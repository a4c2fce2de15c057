/- The reference's Consistent; The reference's Consistent, New, Order, for every presentation; collect.Relations, and the reference's, where there are no relators; Plain: how many relators, how many letters; small facts on RelSt; Memory for own: values that read by blocks below a number, of given types; rows that grow; The law's own: a copy of a presentation; The law's vast, with what it says of the sizes; the walk of CollectChecks; collect.Relations of a valid presentation; The walk of CollectChecks; The contracts of cayleykit.KnownPc at its other numbers; Closed facts of CollectKnown; The walk of CollectNone. -/
import Derived.Test.YtffkmchmakfcpaaOrCS22
import Derived.Test.YtffkmchmakfcpaaOrCS14
import Derived.Deep.RegionHeld3
import Derived.Deep.DrawnRows
import Derived.Test.YtffkmchmakfcpaaOrCS23
import Derived.Test.YtffkmchmakfcpaaOrCS18
import Derived.Test.YtffkmchmakfcpaaOrCS17
import Derived.Test.YtffkmchmakfcpaaOrCS20
namespace Go.Proofs
open Go.RowKit Go.Proofs.Pc
attribute [local go_sem ↓] Go.wp_at_zero Go.wp_at_succ
def AllEq (l : List (V × V)) : Prop := ∀ p ∈ l, p.1 = p.2
theorem AllEq.snoc {l : List (V × V)} {x : V × V} (h : AllEq l) (hx : x.1 = x.2) : AllEq (l ++ [x]) := fun p hp => (List.mem_append.1 hp).elim (h p) (fun e => by simp at e; subst e; exact hx)
/-- the box of the presentation, and all that was before -/
structure Bd (w : World) (a0 a1 a2 : Value) (W : World) : Prop where
  below : Below w.heap.size w W
  box : W.heap[w.heap.size]? = some (.cells #[a0, a1, a2] 26 (0, 0))
theorem Bd.step {w W W' : World} {a0 a1 a2 : Value} (h : Bd w a0 a1 a2 W) (hb : Below W.heap.size W W') : Bd w a0 a1 a2 W' :=
  ⟨h.below.trans (hb.mono h.below.size), (hb.block _ (Array.getElem?_eq_some_iff.1 h.box).1).trans h.box⟩
theorem Bd.c0 {w W : World} {a0 a1 a2 : Value} (h : Bd w a0 a1 a2 W) : W.cell? ⟨w.heap.size, 0, none⟩ = some a0 := by rw [cell_of_row _ _ _ _ _ _ h.box]; rfl
theorem Bd.c1 {w W : World} {a0 a1 a2 : Value} (h : Bd w a0 a1 a2 W) : W.cell? ⟨w.heap.size, 1, none⟩ = some a1 := by rw [cell_of_row _ _ _ _ _ _ h.box]; rfl
theorem Bd.c2 {w W : World} {a0 a1 a2 : Value} (h : Bd w a0 a1 a2 W) : W.cell? ⟨w.heap.size, 2, none⟩ = some a2 := by rw [cell_of_row _ _ _ _ _ _ h.box]; rfl
theorem PcAt.drew {w : World} {v0 v1 v2 : Value} {P : PcD} (h : PcAt w v0 v1 v2 P) : PcAt w.drew v0 v1 v2 P := h
end Go.Proofs
namespace Go.Proofs
open Go.RowKit Go.Proofs.Pc
section
variable {ops : Array Oper} {rest : List Oper} {o : Oper} {a : Act} {w w' : World} {Q : Exit → Act → World → Prop}
theorem wpList_skip (hg : o.guard = none) (hrun : (execOp a.eval o).run Try.prog w = .ok .skip w') (h : wpList Try.prog ops Q rest (a.put o.dst undef) w') : wpList Try.prog ops Q (o :: rest) a w :=
  wpList_plain hg fun _ hK => by
    unfold Oper.wp
    rw [hrun]
    exact hK _ _ h
end
/-- block bh is the reference's group of P -/
def RGrpAt (w : World) (bh : Nat) (P : PcD) : Prop := ∃ u0 u1 u2, w.heap[bh]? = some (.cells #[u0, u1, u2] 85 (0, 0)) ∧ PcAt w u0 u1 u2 P
theorem RGrpAt.below {w w' : World} {bh : Nat} {P : PcD} (h : RGrpAt w bh P) (hb : Below w.heap.size w w') : RGrpAt w' bh P := by
  obtain ⟨u0, u1, u2, h1, h3⟩ := h
  exact ⟨u0, u1, u2, (hb.block _ (Array.getElem?_eq_some_iff.1 h1).1).trans h1, h3.below hb⟩
end Go.Proofs
namespace Go.Proofs.Pc
/-- what Relations returns: code, generators, relators -/
def relsD (P : PcD) : Int × Int × List (List Int) :=
  if (checkD P).1 ≠ 0 then ((checkD P).1, 0, []) else if P.n = 0 then (2, 0, []) else if tot (rels P) > 4000 then (4, 0, []) else (0, P.n, rels P)
end Go.Proofs.Pc
namespace Go.Proofs
open Go.RowKit Go.Proofs.Pc
def RelPost (P : PcD) (w : World) (e : Ending) (w' : World) : Prop :=
  ∃ va, e = .returned (.tuple #[.agg #[.int .i64 (relsD P).2.1, va], .int .i64 (relsD P).1]) ∧ Tab w' va (relsD P).2.2 ∧ Below w.heap.size w w'
theorem tab_nil {w : World} : Tab w (.slice none 0 0) [] := ⟨[], ⟨none, 0, 0, rfl, rfl, Nat.le_refl _, by simp [maxLen], fun h => absurd h (by omega)⟩, rfl, fun i hi => absurd hi (by simp)⟩
theorem info46s : (Try.prog.info? 46).map (·.size) = some 2 := by kernel_rfl
theorem r_store46 {o : Oper} {a : Act} {w : World} (x y : Operand) (ho : o.op = .store 46 x y) (g : Nat) (old c' : Array Value) (hx : a.eval x = .pointer (some ⟨g, 0, none⟩)) (hy : a.eval y = .agg c') (hg : w.heap[g]? = some (.cells old 46 (0, 0)))
    (hi : c'.size = 2) (hoo : old.size = 2) (h1 : c'.all (·.oneCell') = true) : (execOp a.eval o).run Try.prog w = .ok .skip (w.setRow g c') := by
  unfold execOp
  simp only [ho, hx, hy, Instr.storeAt, Instr.sureAddr, Sem.run_bind, Sem.run_pure, Result.andThen_ok, run_storeVar_row w g 46 46 old c' hg (by rw [hi]; exact info46s) (by rw [hi, hoo]) h1]
theorem build46 (w : World) : (Instr.build 46 #[]).run Try.prog w = .ok (.agg #[.int .i64 0, .slice none 0 0]) w := by kernel_rfl
theorem r_build46 {o : Oper} {a : Act} {w : World} (ho : o.op = .build 46 #[]) : (execOp a.eval o).run Try.prog w = .ok (.value (.agg #[.int .i64 0, .slice none 0 0])) w := by
  have hb := build46 w
  unfold execOp
  simp only [ho, List.map_toArray, List.map_nil, Sem.run_bind, hb, Result.andThen_ok]
  rfl
theorem one46 : (#[Value.int .i64 0, Value.slice none 0 0] : Array Value).all (·.oneCell') = true := by simp [Value.oneCell']
theorem results_46_tmp {fn : Func} {p q : Tmp} (h : fn.results = #[.cell p 46, .tmp q]) (tmps : Array Value) (w : World) (g : Nat) (cs : Array Value) (u : Value)
    (hp : tmps.getD p undef = .pointer (some ⟨g, 0, none⟩)) (hq : tmps.getD q undef = u) (hg : w.heap[g]? = some (.cells cs 46 (0, 0))) (hs : cs.size = 2) :
    (results fn tmps).run Try.prog w = .ok (.tuple #[.agg cs, u]) w := by
  have hp' : tmps[p]?.getD undef = .pointer (some ⟨g, 0, none⟩) := by simpa using hp
  have hq' : tmps[q]?.getD undef = u := by simpa using hq
  simp [results, h, hp', hq', asAddr, run_loadVar_row w g 46 46 cs (0, 0) _ hg Try.underlying46 rfl (by rw [hs]; exact info46s)]
set_option maxRecDepth 100000 in
set_option maxHeartbeats 1000000 in
theorem rel_bad (w : World) (v0 v1 v2 : Value) (P : PcD) (hP : PcAt w v0 v1 v2 P) (he : (checkD P).1 ≠ 0) :
    Calls Try.prog 26 #[.agg #[v0, v1, v2]] w (RelPost P w) := by
  have d1 : ((checkD P).1 != 0) = true := by simp [he]
  have HD := Lib.hid (show relsD P = ((checkD P).1, 0, []) from if_pos he)
  have hb : Below w.heap.size w ((w.alloc (.cells #[v0, v1, v2] 26)).alloc (.cells #[.int .i64 0, .slice none 0 0] 46)) := allocs_below [.cells #[v0, v1, v2] 26, .cells #[.int .i64 0, .slice none 0 0] 46] w _ (Nat.le_refl _)
  have hg := allocs_get [.cells #[v0, v1, v2] 26, .cells #[.int .i64 0, .slice none 0 0] 46] w 1 _ rfl
  have HC := Lib.hid (of_bad _ v0 v1 v2 P (hP.below hb) he)
  have hsz : ((w.alloc (.cells #[v0, v1, v2] 26)).alloc (.cells #[.int .i64 0, .slice none 0 0] 46)).heap.size = w.heap.size + 2 := by simp
  have HB := Lib.hid hb
  have HG : Hid (((w.alloc (.cells #[v0, v1, v2] 26)).alloc (.cells #[.int .i64 0, .slice none 0 0] 46)).heap[w.heap.size + 1]? = some (.cells #[.int .i64 0, .slice none 0 0] 46 (0, 0))) := Lib.hid hg
  clear he hP hb hg
  go_enter Try.func26, Try.ntmps26
  go_wp2_with (first
    | (go_at_call 49
       (refine HC.out.mono ?_)
       rintro e w2 ⟨rfl, hb2⟩
       have hg2 : w2.heap[w.heap.size + 1]? = some (.cells #[.int .i64 0, .slice none 0 0] 46 (0, 0)) := (hb2.block _ (by rw [hsz]; omega)).trans HG.out
       have HG2 : Hid (∀ o, (w2.alloc o).heap[w.heap.size + 1]? = some (.cells #[.int .i64 0, .slice none 0 0] 46 (0, 0))) := Lib.hid (fun o => (((Below.refl _ w2).alloc (Nat.le_refl _) o).block _ (Array.getElem?_eq_some_iff.1 hg2).1).trans hg2)
       have HB2 := Lib.hid (HB.out.trans (hb2.mono (by rw [hsz]; omega)))
       clear hg2 hb2)
    | ((with_reducible refine wpList_sel 19 ?_); refine wpList_val rfl (r_build46 rfl) ?_; refine wpList_val rfl (r_move (.tmp 5) rfl rfl) ?_; refine wpList_skip rfl (r_store46 (.tmp 2) (.tmp 19) rfl (w.heap.size + 1) _ #[.int .i64 0, .slice none 0 0] rfl rfl (HG2.out _) rfl rfl one46) ?_))
  try simp only [Exit.inBlock, Exit.then]
  refine bodyPost_ret (results_46_tmp (p := 2) (q := 3) rfl _ _ (w.heap.size + 1) #[.int .i64 0, .slice none 0 0] (.int .i64 (checkD P).1) rfl rfl (setRow_heap _ _ _ _ _ _ (HG2.out _)) rfl) rfl ⟨.slice none 0 0, ?_, ?_, ?_⟩
  · rw [HD.out]
  · rw [HD.out]; exact tab_nil
  · exact (HB2.out.alloc HB2.out.size _).trans ⟨rfl, rfl, rfl, by rw [World.setRow]; simp, fun k hk => setRow_other _ _ k _ (by omega)⟩
end Go.Proofs
namespace Go.Proofs.Pc
theorem back_len {y : V} {n : Nat} (hy : ∀ k, k < n → 0 ≤ y.getD k 0 ∧ y.getD k 0 ≤ 1000) (hn : n ≤ 12) : (back y n).length ≤ 12000 := by
  have := backTo_len y n hy n (Nat.le_refl _)
  unfold back; omega
/-- no more than m words, each of at most 13000 letters -/
def Few (l : List (List Int)) (m : Nat) : Prop := l.length ≤ m ∧ tot l ≤ 13000 * (m : Int)
theorem Few.nil (m : Nat) : Few [] m := ⟨Nat.zero_le _, by simp [tot]; omega⟩
theorem Few.snoc {l : List (List Int)} {m : Nat} {x : List Int} (h : Few l m) (hx : x.length ≤ 13000) : Few (l ++ [x]) (m + 1) :=
  ⟨by have := h.1; simp; omega, by have := h.2; rw [tot_snoc]; omega⟩
theorem Few.app {l l' : List (List Int)} {m m' : Nat} (h : Few l m) (h' : Few l' m') : Few (l ++ l') (m + m') :=
  ⟨by have := h.1; have := h'.1; simp; omega, by have := h.2; have := h'.2; rw [tot_app]; omega⟩
theorem Few.mono {l : List (List Int)} {m m' : Nat} (h : Few l m) (hm : m ≤ m') : Few l m' := ⟨by have := h.1; omega, by have := h.2; omega⟩
theorem NV.le {P : PcD} (hv : Valid P) {y : V} (hy : NV P y) : ∀ k, k < P.n → 0 ≤ y.getD k 0 ∧ y.getD k 0 ≤ 1000 := fun k hk => by
  have h1 := hy.2 k hk
  have h2 := hv.ord2 k hk
  omega
theorem pow_le {P : PcD} (hv : Valid P) {i : Nat} (hi : i < P.n) : ∀ k, k < P.n → 0 ≤ (P.pow i).getD k 0 ∧ (P.pow i).getD k 0 ≤ 1000 := NV.le hv (norm_NV (hv.pow i hi))
theorem cj_le {P : PcD} (hv : Valid P) {j i : Nat} (hj : j < P.n) (hi : i < j) : ∀ k, k < P.n → 0 ≤ (P.cj j i).getD k 0 ∧ (P.cj j i).getD k 0 ≤ 1000 := NV.le hv (norm_NV (hv.cj j hj i hi))
theorem few_I {P : PcD} (hv : Valid P) : ∀ m, m ≤ P.n → Few (relsI P m) m
  | 0, _ => Few.nil 0
  | m + 1, hm => by
    refine Few.snoc (few_I hv m (by omega)) ?_
    have h1 := hv.ord2 m (by omega)
    have h2 := back_len (pow_le hv (i := m) (by omega)) hv.n12
    unfold relW
    rw [List.length_append, List.length_replicate]; omega
theorem few_J {P : PcD} (hv : Valid P) {j : Nat} (hj : j < P.n) : ∀ m, m ≤ j → Few (relsJ P j m) m
  | 0, _ => Few.nil 0
  | m + 1, hm => by
    refine Few.snoc (few_J hv hj m (by omega)) ?_
    have h2 := back_len (cj_le hv hj (i := m) (by omega)) hv.n12
    unfold relC
    rw [List.length_append]; simp; omega
theorem few_C {P : PcD} (hv : Valid P) : ∀ m, m ≤ P.n → Few (relsC P m) (12 * m)
  | 0, _ => Few.nil 0
  | m + 1, hm => by
    have := hv.n12
    exact (few_C hv m (by omega)).app ((few_J hv (j := m) (by omega) m (Nat.le_refl _)).mono (m' := 12) (by omega))
end Go.Proofs.Pc
namespace Go.Proofs
open Go.RowKit Go.Proofs.Pc
theorem r_load46 {o : Oper} {a : Act} {w : World} (x : Operand) (b : Nat) (v0 v1 : Value) (ho : o.op = .load 46 x) (hx : a.eval x = .pointer (some ⟨b, 0, none⟩)) (hc : w.heap[b]? = some (.cells #[v0, v1] 46 (0, 0))) : (execOp a.eval o).run Try.prog w = .ok (.value (.agg #[v0, v1])) w := by
  have h := run_loadVar_row (P := Try.prog) w b 46 46 #[v0, v1] (0, 0) _ hc Try.underlying46 rfl info46s
  unfold execOp
  simp only [ho, hx, Instr.loadAt, Instr.sureAddr, Sem.run_bind, Sem.run_pure, Result.andThen_ok, h]
theorem owns_rep {w : World} {g B q : Nat} {x : Int} (hg : w.heap[g]? = some (.cells (rp x q q).toArray 3 (0, 0))) (hB : B ≤ g) (hq : q ≤ 1000) : w.ownsRow B 3 1 (.slice (some ⟨g, 0, none⟩) q q) (List.replicate q x).length (ints (List.replicate q x)) := by
  rw [List.length_replicate, ints_rep, ← rp_full]
  refine ⟨by rw [length_rp _ (Nat.le_refl _), Nat.mul_one], .inr ⟨g, q, _, rfl, hB, hg, Nat.le_refl _, by unfold maxLen; omega, by rw [List.size_toArray, length_rp _ (Nat.le_refl _), Nat.mul_one], ?_⟩⟩
  rw [Nat.mul_one]
  exact List.take_of_length_le (by rw [length_rp _ (Nat.le_refl _)]; exact Nat.le_refl _)
theorem owns_three {w : World} {g B : Nat} {x y z : Int} (hg : w.heap[g]? = some (.cells #[.int .i64 x, .int .i64 y, .int .i64 z] 3 (0, 0))) (hB : B ≤ g) : w.ownsRow B 3 1 (.slice (some ⟨g, 0, none⟩) 3 3) [x, y, z].length (ints [x, y, z]) :=
  ⟨rfl, .inr ⟨g, 3, _, rfl, hB, hg, Nat.le_refl _, by simp [maxLen], rfl, rfl⟩⟩
theorem RelSt.to_below {lo hi m : Nat} {w0 w : World} {L O : Nat} {n : Int} {rs : List (List Int)} (h : RelSt lo hi w0 w L O n rs) (h0 : w0.heap.size ≤ lo) (hm : m ≤ lo) (hL : m ≤ L) (hO : m ≤ O) : Below m w0 w :=
  ⟨h.os, h.tape, h.output, by have := h.lh; have := h.hs; omega, fun k hk => h.old k (by omega) (by omega) (by omega)⟩
theorem RelSt.start {lo : Nat} {w0 : World} {L O : Nat} {n : Int} (h0 : w0.heap.size = lo) (hO : w0.heap[O]? = some (.cells #[.int .i64 n, .slice none 0 0] 46 (0, 0))) : RelSt lo w0.heap.size w0 w0 L O n [] :=
  ⟨rfl, rfl, rfl, by omega, Nat.le_refl _, fun _ _ _ _ => rfl, none, 0, [], hO, World.ownsRow_nil _ _ _ _, (fun r hr => nomatch hr), (fun j hj => absurd hj (Nat.not_lt_zero j))⟩
/-- the words, read in a later world -/
theorem RelSt.tab {lo hi : Nat} {w0 w w' : World} {L O : Nat} {n : Int} {rs : List (List Int)} (h : RelSt lo hi w0 w L O n rs) (hk : ∀ k, lo ≤ k → k < w.heap.size → w'.heap[k]? = w.heap[k]?) : ∃ A c, w.heap[O]? = some (.cells #[.int .i64 n, .slice A rs.length c] 46 (0, 0)) ∧ Tab w' (.slice A rs.length c) rs := by
  obtain ⟨A, c, vals, ho, hw, hr, hv⟩ := h.out
  refine ⟨A, c, ho, vals, sl_of_owns (owns_keep hw fun r hr' => hk r (owns_block hw r hr').1 (by have := hr r hr'; have := h.hs; omega)), by simpa using hw.1, fun i hi' => ?_⟩
  obtain ⟨u, hu, hx⟩ := hv i hi'
  exact ⟨u, hu, hx w' fun k C fr h1 h2 h3 => (hk k h1 (by have := h.hs; omega)).trans h3⟩
end Go.Proofs
namespace Go.Proofs
open Go.RowKit Go.Proofs.Pc
/-- blocks of cells below hi, of the types T, are as they were -/
def AgX (hi : Nat) (T : List Nat) (w w' : World) : Prop := ∀ (k : Nat) (C : Array Value) (t : TypeId) (fr : Nat × Nat), k < hi → t ∈ T → w.heap[k]? = some (Obj.cells C t fr) → w'.heap[k]? = some (Obj.cells C t fr)
theorem AgX.trans {hi hi' : Nat} {T : List Nat} {w w' w'' : World} (h : AgX hi T w w') (k : AgX hi' T w' w'') (hh : hi ≤ hi') : AgX hi T w w'' := fun b C t fr h1 h2 h3 => k b C t fr (by omega) h2 (h b C t fr h1 h2 h3)
theorem AgX.of_below {hi : Nat} {T : List Nat} {w w' : World} (h : Below hi w w') : AgX hi T w w' := fun k _ _ _ hk _ h3 => (h.block k hk).trans h3
theorem AgX.of_grown {hi : Nat} {T : List Nat} {w w' : World} {row : Option Nat} (h : w.grownBy w' row) (hr : ∀ r, row = some r → ∃ C t fr, w.heap[r]? = some (Obj.cells C t fr) ∧ t ∉ T) : AgX hi T w w' := fun k C t fr _ ht hk => by
  refine (h.block k (Array.getElem?_eq_some_iff.1 hk).1 fun e => ?_).trans hk
  obtain ⟨C', t', fr', h1, h2⟩ := hr k e.symm
  rw [hk] at h1
  cases h1
  exact h2 ht
theorem AgX.of_set {hi : Nat} {T : List Nat} {w : World} {b j : Nat} {v : Value} {C : Array Value} {t : TypeId} {fr : Nat × Nat} (h : w.heap[b]? = some (Obj.cells C t fr)) (ht : t ∉ T) : AgX hi T w (w.setCell ⟨b, j, none⟩ v) := fun k C' t' fr' _ ht' hk => by
  rw [Below.heap_setCell]
  · exact hk
  · intro e
    have : k = b := e
    subst this
    rw [hk] at h
    cases h
    exact ht ht'
section
variable {α : Type} {R : World → Value → α → Prop} {d : α} {T : List Nat} {hi hi' : Nat} {w w' : World} {u : Value} {x : α}
/-- u reads as x by blocks below hi of the types T -/
def Yd (T : List Nat) (R : World → Value → α → Prop) (hi : Nat) (w : World) (u : Value) (x : α) : Prop := ∀ w' : World, AgX hi T w w' → R w' u x
theorem Yd.at_ (h : Yd T R hi w u x) : R w u x := h w fun _ _ _ _ _ _ h => h
theorem Yd.keep (h : Yd T R hi w u x) (hh : hi ≤ hi') (hk : AgX hi T w w') : Yd T R hi' w' u x := fun w'' hw => h w'' (hk.trans hw hh)
/-- sv owns a row, of elements of the type e, that read as xs -/
def RowOf (base hi e : Nat) (T : List Nat) (R : World → Value → α → Prop) (d : α) (w : World) (sv : Value) (xs : List α) : Prop :=
  ∃ vals, w.ownsRow base e 1 sv xs.length vals ∧ ∀ j, j < xs.length → ∃ u, vals[j]? = some u ∧ Yd T R hi w u (xs.getD j d)
theorem RowOf.nil (base hi e : Nat) (T : List Nat) (R : World → Value → α → Prop) (d : α) (w : World) : RowOf base hi e T R d w (.slice none 0 0) [] :=
  ⟨[], World.ownsRow_nil _ _ _ _, fun _ hj => absurd hj (Nat.not_lt_zero _)⟩
theorem RowOf.form {base e : Nat} {sv : Value} {xs : List α} (h : RowOf base hi e T R d w sv xs) : ∃ A c, sv = .slice A xs.length c := by
  obtain ⟨vals, h1, -⟩ := h
  exact owns_form h1
theorem RowOf.keep {base e : Nat} {sv : Value} {xs : List α} (h : RowOf base hi e T R d w sv xs) (hh : hi ≤ hi') (hk : AgX hi T w w') (hr : ∀ r, sv.ownBlock = some r → w'.heap[r]? = w.heap[r]?) : RowOf base hi' e T R d w' sv xs := by
  obtain ⟨vals, h1, h2⟩ := h
  refine ⟨vals, owns_keep h1 hr, fun j hj => ?_⟩
  obtain ⟨u, h3, h4⟩ := h2 j hj
  exact ⟨u, h3, h4.keep hh hk⟩
theorem RowOf.below {base e : Nat} {sv : Value} {xs : List α} (h : RowOf base w.heap.size e T R d w sv xs) (hb : Below w.heap.size w w') : RowOf base w'.heap.size e T R d w' sv xs := by
  refine h.keep hb.size (AgX.of_below hb) fun r hr => ?_
  obtain ⟨vals, h1, -⟩ := h
  obtain ⟨-, C, hC⟩ := owns_block h1 r hr
  exact hb.block r (Array.getElem?_eq_some_iff.1 hC).1
theorem RowOf.snoc {base e : Nat} {A A' : Option Addr} {c c' : Nat} {vals : List Value} {xs : List α} {x : α} (he : e ∉ T) (hrow : w.ownsRow base e 1 (.slice A xs.length c) xs.length vals) (hel : ∀ j, j < xs.length → ∃ u, vals[j]? = some u ∧ Yd T R w.heap.size w u (xs.getD j d))
    (hu : Yd T R w.heap.size w u x) (hg : w.grownBy w' (Value.slice A xs.length c).ownBlock) (hown : w'.ownsRow base e 1 (.slice A' (xs.length + 1) c') (xs.length + 1) (vals ++ [u])) : RowOf base w'.heap.size e T R d w' (.slice A' (xs.length + 1) c') (xs ++ [x]) := by
  have hag : AgX w.heap.size T w w' := AgX.of_grown hg fun r hr => by
    obtain ⟨-, C, hC⟩ := owns_block hrow r hr
    exact ⟨C, e, _, hC, he⟩
  have hvl : vals.length = xs.length := by simpa using hrow.1
  have hlen : (xs ++ [x]).length = xs.length + 1 := by simp
  refine ⟨vals ++ [u], by rw [hlen]; exact hown, fun j hj => ?_⟩
  rw [hlen] at hj
  rcases Nat.lt_or_ge j xs.length with hjl | hjl
  · obtain ⟨u', h3, h4⟩ := hel j hjl
    refine ⟨u', by rw [List.getElem?_append_left (by omega)]; exact h3, ?_⟩
    have e1 : (xs ++ [x]).getD j d = xs.getD j d := by simp [List.getD_eq_getElem?_getD, List.getElem?_append_left hjl]
    rw [e1]
    exact h4.keep hg.size hag
  · obtain rfl : j = xs.length := by omega
    refine ⟨u, by rw [List.getElem?_append_right (by omega), hvl, Nat.sub_self]; rfl, ?_⟩
    have e1 : (xs ++ [x]).getD xs.length d = x := by simp [List.getD_eq_getElem?_getD]
    rw [e1]
    exact hu.keep hg.size hag
end
section
variable {ops : Array Oper} {o : Oper} {a : Act} {w w' : World} {K : Act → World → Prop} {Q : Exit → Act → World → Prop} {E : Prop} {v : Value}
end
end Go.Proofs
namespace Go.Proofs
open Go.RowKit Go.Proofs.Pc
/-- own, between its statements: the boxes, the copied orders -/
structure OwS (w : World) (P : PcD) (v0 v1 v2 : Value) (q : Nat) (u0 s1 s2 : Value) (wr : World) : Prop where
  below : Below w.heap.size w wr
  box : wr.heap[w.heap.size]? = some (.cells #[v0, v1, v2] 26 (0, 0))
  res : wr.heap[w.heap.size + 1]? = some (.cells #[.slice none 0 0, .slice none 0 0, .slice none 0 0] 26 (0, 0))
  q : wr.heap[q]? = some (.cells #[u0, s1, s2] 26 (0, 0))
  i0 : Yd [3] IntsAt wr.heap.size wr u0 P.orders
section
variable {w wr w' : World} {P : PcD} {v0 v1 v2 u0 s1 s2 : Value} {q : Nat}
theorem OwS.step (h : OwS w P v0 v1 v2 q u0 s1 s2 wr) (hb : Below wr.heap.size wr w') : OwS w P v0 v1 v2 q u0 s1 s2 w' :=
  ⟨h.below.trans (hb.mono h.below.size), (hb.block _ (Array.getElem?_eq_some_iff.1 h.box).1).trans h.box, (hb.block _ (Array.getElem?_eq_some_iff.1 h.res).1).trans h.res, (hb.block _ (Array.getElem?_eq_some_iff.1 h.q).1).trans h.q, h.i0.keep hb.size (AgX.of_below hb)⟩
theorem OwS.grown {row : Option Nat} {e : Nat} (h : OwS w P v0 v1 v2 q u0 s1 s2 wr) (hg : wr.grownBy w' row) (hr : ∀ r, row = some r → w.heap.size ≤ r ∧ ∃ C, wr.heap[r]? = some (.cells C e (0, 0))) (he3 : e ≠ 3) (he : e ≠ 26) : OwS w P v0 v1 v2 q u0 s1 s2 w' := by
  have hne : ∀ {b : Nat} {C : Array Value}, wr.heap[b]? = some (.cells C 26 (0, 0)) → w'.heap[b]? = some (.cells C 26 (0, 0)) := fun {b C} hb => by
    refine (hg.block b (Array.getElem?_eq_some_iff.1 hb).1 fun e' => ?_).trans hb
    obtain ⟨-, C', hC'⟩ := hr b e'.symm
    rw [hb] at hC'
    injection (Option.some.inj hC') with _ h2
    exact he h2.symm
  refine ⟨h.below.grown hg h.below.size fun r hr' => (hr r hr').1, hne h.box, hne h.res, hne h.q, h.i0.keep hg.size (AgX.of_grown hg fun r hr' => ?_)⟩
  obtain ⟨-, C, hC⟩ := hr r hr'
  exact ⟨C, e, _, hC, by simpa using he3⟩
theorem OwS.set2 (h : OwS w P v0 v1 v2 q u0 s1 s2 wr) (hq : w.heap.size + 1 < q) (s : Value) : OwS w P v0 v1 v2 q u0 s1 s (wr.setCell ⟨q, 2, none⟩ s) := by
  have hk : ∀ k, k ≠ q → (wr.setCell ⟨q, 2, none⟩ s).heap[k]? = wr.heap[k]? := fun k hk => Below.heap_setCell wr ⟨q, 2, none⟩ s k hk
  have hs : (wr.setCell ⟨q, 2, none⟩ s).heap.size = wr.heap.size := by simp [World.setCell]
  refine ⟨h.below.setCell (p := ⟨q, 2, none⟩) (by show w.heap.size ≤ q; omega) _, (hk _ (by omega)).trans h.box, (hk _ (by omega)).trans h.res, by simp [World.setCell, Array.getElem?_modify, h.q], ?_⟩
  rw [hs]
  exact h.i0.keep (Nat.le_refl _) (AgX.of_set h.q (by simp))
end
section
variable {α : Type} {R : World → Value → α → Prop} {d : α} {T : List Nat} {w w' : World} {u : Value} {x : α} {xs : List α} {base e n c : Nat} {A : Option Addr}
theorem RowOf.len {sv : Value} {hi : Nat} (h : RowOf base hi e T R d w sv xs) : ∃ A c, sv = .slice A xs.length c := h.form
theorem RowOf.row (h : RowOf base w.heap.size e T R d w (.slice A n c) xs) : ∀ r, (Value.slice A n c).ownBlock = some r → base ≤ r ∧ r < w.heap.size ∧ ∃ C, w.heap[r]? = some (.cells C e (0, 0)) := fun r hr => by
  obtain ⟨vals, h1, -⟩ := h
  obtain ⟨h2, C, hC⟩ := owns_block h1 r hr
  exact ⟨h2, (Array.getElem?_eq_some_iff.1 hC).1, C, hC⟩
theorem RowOf.set {sv : Value} {b j : Nat} {v : Value} {C : Array Value} {t : TypeId} {fr : Nat × Nat} (h : RowOf base w.heap.size e T R d w sv xs) (hb : w.heap[b]? = some (.cells C t fr)) (ht : t ∉ T) (hte : t ≠ e) : RowOf base (w.setCell ⟨b, j, none⟩ v).heap.size e T R d (w.setCell ⟨b, j, none⟩ v) sv xs := by
  have hs : (w.setCell ⟨b, j, none⟩ v).heap.size = w.heap.size := by simp [World.setCell]
  rw [hs]
  refine h.keep (Nat.le_refl _) (AgX.of_set hb ht) fun r hr => Below.heap_setCell w ⟨b, j, none⟩ v r fun hh => ?_
  obtain ⟨vals, h1, -⟩ := h
  obtain ⟨-, C', hC'⟩ := owns_block h1 r hr
  rw [show r = b from hh, hb] at hC'
  injection (Option.some.inj hC') with _ h2
  exact hte h2
theorem Yd.set {hi : Nat} {b j : Nat} {v : Value} {C : Array Value} {t : TypeId} {fr : Nat × Nat} (h : Yd T R hi w u x) (hb : w.heap[b]? = some (.cells C t fr)) (ht : t ∉ T) : Yd T R hi (w.setCell ⟨b, j, none⟩ v) u x := h.keep (Nat.le_refl _) (AgX.of_set hb ht)
end
section
variable {o : Oper} {a : Act} {w w' : World} {v : Value}
theorem bslice22 (w : World) : (Instr.buildSlice 22 0 #[]).run Try.prog w = .ok (.slice (some ⟨w.heap.size, 0, none⟩) 0 0) (w.alloc (.cells #[] 3)) := by kernel_rfl
theorem r_bs22 (ho : o.op = .buildSlice 22 0 #[]) : (execOp a.eval o).run Try.prog w = .ok (.value (.slice (some ⟨w.heap.size, 0, none⟩) 0 0)) (w.alloc (.cells #[] 3)) := by
  have hb := bslice22 w
  unfold execOp
  simp only [ho, List.map_toArray, List.map_nil, Sem.run_bind, hb, Result.andThen_ok]
  rfl
end
theorem AgX.of_row {hi : Nat} {T : List Nat} {w w' : World} {row : Option Nat} (h : w.grownBy w' row) (hr : ∀ r, row = some r → hi ≤ r) : AgX hi T w w' := fun k C t fr hk _ hc =>
  (h.block k (Array.getElem?_eq_some_iff.1 hc).1 fun e => by have := hr k e.symm; omega).trans hc
/-- own, in its last loops: the copied powers, the lists of conjugates so far -/
structure Ow3 (base hi : Nat) (s1 s2 : Value) (P : PcD) (k : Nat) (wx : World) : Prop where
  t1 : Yd [22, 3] Tab hi wx s1 P.powers
  r2 : RowOf base hi 23 [22, 3] Tab [] wx s2 (P.conj.take k)
theorem Ow3.below {base hi hi' k : Nat} {s1 s2 : Value} {P : PcD} {wx w' : World} (h : Ow3 base hi s1 s2 P k wx) (hh : hi ≤ hi') (hw : hi ≤ wx.heap.size) (hb : Below wx.heap.size wx w') : Ow3 base hi' s1 s2 P k w' :=
  ⟨h.t1.keep hh (AgX.of_below (hb.mono hw)), h.r2.keep hh (AgX.of_below (hb.mono hw)) fun r hr => by
    obtain ⟨vals, h1, -⟩ := h.r2
    obtain ⟨-, C, hC⟩ := owns_block h1 r hr
    exact hb.block r (Array.getElem?_eq_some_iff.1 hC).1⟩
theorem Ow3.grown {base hi k : Nat} {s1 s2 : Value} {P : PcD} {wx w' : World} {row : Option Nat} (h : Ow3 base hi s1 s2 P k wx) (hg : wx.grownBy w' row) (hr : ∀ r, row = some r → hi ≤ r ∧ ∃ C, wx.heap[r]? = some (.cells C 22 (0, 0))) : Ow3 base hi s1 s2 P k w' :=
  ⟨h.t1.keep (Nat.le_refl _) (AgX.of_row hg fun r hr' => (hr r hr').1), h.r2.keep (Nat.le_refl _) (AgX.of_row hg fun r hr' => (hr r hr').1) fun r hr' => by
    obtain ⟨vals, h1, -⟩ := h.r2
    obtain ⟨-, C, hC⟩ := owns_block h1 r hr'
    refine hg.block r (Array.getElem?_eq_some_iff.1 hC).1 fun e => ?_
    obtain ⟨-, C', hC'⟩ := hr r e.symm
    rw [hC] at hC'; cases hC'⟩
end Go.Proofs
namespace Go.Proofs
open Go.RowKit Go.Proofs.Pc
def LenTo {α : Type} (L : List (List α)) (k : Nat) : Prop := ∀ j, j < k → (L.getD j []).length ≤ 15
theorem LenTo.step {α : Type} {L : List (List α)} {k : Nat} (h : LenTo L k) (hk : (L.getD k []).length ≤ 15) : LenTo L (k + 1) := fun j hj => by
  rcases Nat.lt_or_ge j k with h1 | h1
  · exact h j h1
  · obtain rfl : j = k := by omega
    exact hk
def RowsTo (C : List (List (List Int))) (k : Nat) : Prop := ∀ j, j < k → LenTo (C.getD j []) (C.getD j []).length
theorem RowsTo.step {C : List (List (List Int))} {k : Nat} (h : RowsTo C k) (hk : LenTo (C.getD k []) (C.getD k []).length) : RowsTo C (k + 1) := fun j hj => by
  rcases Nat.lt_or_ge j k with h1 | h1
  · exact h j h1
  · obtain rfl : j = k := by omega
    exact hk
end Go.Proofs
namespace Go.Proofs
open Go.RowKit Go.Proofs.Pc
set_option maxRecDepth 100000 in
set_option maxHeartbeats 1000000 in
theorem rel_zero (w : World) (v0 v1 v2 : Value) (P : PcD) (hP : PcAt w v0 v1 v2 P) (he : (checkD P).1 = 0) (hn : P.n = 0) :
    Calls Try.prog 26 #[.agg #[v0, v1, v2]] w (RelPost P w) := by
  have HD := Lib.hid (show relsD P = (2, 0, []) by unfold relsD; rw [if_neg (by simp [he]), if_pos hn])
  have hb : Below w.heap.size w ((w.alloc (.cells #[v0, v1, v2] 26)).alloc (.cells #[.int .i64 0, .slice none 0 0] 46)) := allocs_below [.cells #[v0, v1, v2] 26, .cells #[.int .i64 0, .slice none 0 0] 46] w _ (Nat.le_refl _)
  have hg := allocs_get [.cells #[v0, v1, v2] 26, .cells #[.int .i64 0, .slice none 0 0] 46] w 1 _ rfl
  have HC := Lib.hid (of_good _ v0 v1 v2 P (hP.below hb) he)
  have hsz : ((w.alloc (.cells #[v0, v1, v2] 26)).alloc (.cells #[.int .i64 0, .slice none 0 0] 46)).heap.size = w.heap.size + 2 := by simp
  have HB := Lib.hid hb
  have HG : Hid (((w.alloc (.cells #[v0, v1, v2] 26)).alloc (.cells #[.int .i64 0, .slice none 0 0] 46)).heap[w.heap.size + 1]? = some (.cells #[.int .i64 0, .slice none 0 0] 46 (0, 0))) := Lib.hid hg
  have HN := Lib.hid hn
  clear he hP hb hg hn
  go_enter Try.func26, Try.ntmps26
  go_wp2_with (first
    | (go_at_call 49
       (refine HC.out.mono ?_)
       rintro e w2 ⟨⟨br, rfl, hR, hbr⟩, hb2⟩
       have hg2 : w2.heap[w.heap.size + 1]? = some (.cells #[.int .i64 0, .slice none 0 0] 46 (0, 0)) := (hb2.block _ (by rw [hsz]; omega)).trans HG.out
       have HG2 : Hid (∀ o, (w2.alloc o).heap[w.heap.size + 1]? = some (.cells #[.int .i64 0, .slice none 0 0] 46 (0, 0))) := Lib.hid (fun o => (((Below.refl _ w2).alloc (Nat.le_refl _) o).block _ (Array.getElem?_eq_some_iff.1 hg2).1).trans hg2)
       have hnc : (w2.alloc (.cells #[.pointer (some ⟨br, 0, none⟩)] 62)).cell? ⟨br, 0, none⟩ = some (.int .i64 0) := (KC.of_below ((Below.refl _ w2).alloc (Nat.le_refl _) _)).cell (by rw [hR.n, HN.out]; rfl)
       have HB2 := Lib.hid (HB.out.trans (hb2.mono (by rw [hsz]; omega)))
       clear hg2 hb2 hR hbr)
    | ((with_reducible refine wpList_sel 26 ?_); refine wpList_val rfl (r_build46 rfl) ?_; refine wpList_skip rfl (r_store46 (.tmp 2) (.tmp 26) rfl (w.heap.size + 1) _ #[.int .i64 0, .slice none 0 0] rfl rfl (HG2.out _) rfl rfl one46) ?_))
  try simp only [Exit.inBlock, Exit.then]
  refine bodyPost_ret (results_46_tmp (p := 2) (q := 3) rfl _ _ (w.heap.size + 1) #[.int .i64 0, .slice none 0 0] (.int .i64 2) rfl rfl (setRow_heap _ _ _ _ _ _ (HG2.out _)) rfl) rfl ⟨.slice none 0 0, ?_, ?_, ?_⟩
  · rw [HD.out]
  · rw [HD.out]; exact tab_nil
  · exact (HB2.out.alloc HB2.out.size _).trans ⟨rfl, rfl, rfl, by rw [World.setRow]; simp, fun k hk => setRow_other _ _ k _ (by omega)⟩
set_option maxRecDepth 100000 in
set_option maxHeartbeats 1000000 in
theorem rel_good (w : World) (v0 v1 v2 : Value) (P : PcD) (hP : PcAt w v0 v1 v2 P) (he : (checkD P).1 = 0) (hn : 0 < P.n) :
    Calls Try.prog 26 #[.agg #[v0, v1, v2]] w (RelPost P w) := by
  have hv := valid_of_check he
  have hn12 : P.n ≤ 12 := hv.n12
  have hne : ((P.n : Int) == 0) = false := by simp; omega
  have HV := Lib.hid hv
  have hb : Below w.heap.size w ((w.alloc (.cells #[v0, v1, v2] 26)).alloc (.cells #[.int .i64 0, .slice none 0 0] 46)) := allocs_below [.cells #[v0, v1, v2] 26, .cells #[.int .i64 0, .slice none 0 0] 46] w _ (Nat.le_refl _)
  have hg := allocs_get [.cells #[v0, v1, v2] 26, .cells #[.int .i64 0, .slice none 0 0] 46] w 1 _ rfl
  have HC := Lib.hid (of_good _ v0 v1 v2 P (hP.below hb) he)
  have hsz : ((w.alloc (.cells #[v0, v1, v2] 26)).alloc (.cells #[.int .i64 0, .slice none 0 0] 46)).heap.size = w.heap.size + 2 := by simp
  have HB := Lib.hid hb
  have HG : Hid (((w.alloc (.cells #[v0, v1, v2] 26)).alloc (.cells #[.int .i64 0, .slice none 0 0] 46)).heap[w.heap.size + 1]? = some (.cells #[.int .i64 0, .slice none 0 0] 46 (0, 0))) := Lib.hid hg
  have hmf : ∀ (fn : Fn) (first cap : Array Value) (w : World), (Instr.makeFunc fn first cap).run Try.prog w = .ok (.func fn first cap) w := fun _ _ _ _ => rfl
  have HE := Lib.hid he
  clear he hP hb hg hv
  go_enter Try.func26, Try.ntmps26
  go_wp2_with (first
    | (go_at_call 49
       (refine HC.out.mono ?_)
       rintro e w2 ⟨⟨br, rfl, hR, hbr⟩, hb2⟩
       have hg2 : w2.heap[w.heap.size + 1]? = some (.cells #[.int .i64 0, .slice none 0 0] 46 (0, 0)) := (hb2.block _ (by rw [hsz]; omega)).trans HG.out
       have hw2 : w.heap.size + 1 < w2.heap.size := (Array.getElem?_eq_some_iff.1 hg2).1
       have hbr2 : br < w2.heap.size := World.block_lt_of_cell? w2 _ hR.n
       have hnc : (w2.alloc (.cells #[.pointer (some ⟨br, 0, none⟩)] 62)).cell? ⟨br, 0, none⟩ = some (.int .i64 P.n) := (KC.of_below ((Below.refl _ w2).alloc (Nat.le_refl _) _)).cell hR.n
       have hnc3 : (((w2.alloc (.cells #[.pointer (some ⟨br, 0, none⟩)] 62)).alloc (.cells #[.int .i64 P.n, .slice none 0 0] 46)).alloc (.cells #[.int .i64 0] 3)).cell? ⟨br, 0, none⟩ = some (.int .i64 P.n) := (KC.of_below ((((Below.refl _ w2).alloc (Nat.le_refl _) _).alloc (by simp) _).alloc (by simp; omega) _)).cell hR.n
       have hr3 := allocs_get [.cells #[.pointer (some ⟨br, 0, none⟩)] 62, .cells #[.int .i64 P.n, .slice none 0 0] 46, .cells #[.int .i64 0] 3] w2 0 _ rfl
       have hO3 : (((w2.alloc (.cells #[.pointer (some ⟨br, 0, none⟩)] 62)).alloc (.cells #[.int .i64 P.n, .slice none 0 0] 46)).alloc (.cells #[.int .i64 0] 3)).heap[w2.heap.size + 1]? = some (.cells #[.int .i64 P.n, .slice none 0 0] 46 (0, 0)) := allocs_get [.cells #[.pointer (some ⟨br, 0, none⟩)] 62, .cells #[.int .i64 P.n, .slice none 0 0] 46, .cells #[.int .i64 0] 3] w2 1 _ rfl
       have hL3 : (((w2.alloc (.cells #[.pointer (some ⟨br, 0, none⟩)] 62)).alloc (.cells #[.int .i64 P.n, .slice none 0 0] 46)).alloc (.cells #[.int .i64 0] 3)).heap[w2.heap.size + 1 + 1]? = some (.cells #[.int .i64 0] 3 (0, 0)) := allocs_get [.cells #[.pointer (some ⟨br, 0, none⟩)] 62, .cells #[.int .i64 P.n, .slice none 0 0] 46, .cells #[.int .i64 0] 3] w2 2 _ rfl
       have hb3 : Below w2.heap.size w2 (((w2.alloc (.cells #[.pointer (some ⟨br, 0, none⟩)] 62)).alloc (.cells #[.int .i64 P.n, .slice none 0 0] 46)).alloc (.cells #[.int .i64 0] 3)) := allocs_below [.cells #[.pointer (some ⟨br, 0, none⟩)] 62, .cells #[.int .i64 P.n, .slice none 0 0] 46, .cells #[.int .i64 0] 3] w2 _ (Nat.le_refl _)
       have hs3 : (((w2.alloc (.cells #[.pointer (some ⟨br, 0, none⟩)] 62)).alloc (.cells #[.int .i64 P.n, .slice none 0 0] 46)).alloc (.cells #[.int .i64 0] 3)).heap.size = w2.heap.size + 3 := by simp
       have hrc3 : (((w2.alloc (.cells #[.pointer (some ⟨br, 0, none⟩)] 62)).alloc (.cells #[.int .i64 P.n, .slice none 0 0] 46)).alloc (.cells #[.int .i64 0] 3)).cell? ⟨w2.heap.size, 0, none⟩ = some (.pointer (some ⟨br, 0, none⟩)) := (cell_of_row _ _ 0 _ _ _ hr3).trans rfl
       have HR := Lib.hid hR
       have HR3 := Lib.hid hr3
       have HO3 := Lib.hid hO3
       have HL3 := Lib.hid hL3
       have HB3 := Lib.hid hb3
       have HG2 := Lib.hid hg2
       have HB2 := Lib.hid (HB.out.trans (hb2.mono (by rw [hsz]; omega)))
       clear hg2 hb2 hR hbr hr3 hO3 hL3 hb3))
  have HPR := Lib.hid hrc3
  generalize (((w2.alloc (.cells #[.pointer (some ⟨br, 0, none⟩)] 62)).alloc (.cells #[.int .i64 P.n, .slice none 0 0] 46)).alloc (.cells #[.int .i64 0] 3)) = W at *
  have HRW : Hid (RulesAt W br P) := Lib.hid (HR.out.below HB3.out)
  have HBW : Hid (Below w.heap.size w W) := Lib.hid (HB2.out.trans (HB3.out.mono (by omega)))
  have HG3 : Hid (W.heap[w.heap.size + 1]? = some (.cells #[.int .i64 0, .slice none 0 0] 46 (0, 0))) := Lib.hid ((HB3.out.block _ (by omega)).trans HG2.out)
  clear HR HB3 HB2 HG2 HR3 HC HB HG hsz hnc
  generalize hLe : w2.heap.size + 1 + 1 = L at *
  generalize hOe : w2.heap.size + 1 = O at *
  generalize w2.heap.size = pr at *
  have hprO : pr < O := by omega
  have hOL : O < L := by omega
  have hLl : L < W.heap.size := by omega
  have hWL : W.heap.size ≤ L + 1 := by omega
  have hbrl : br < pr := hbr2
  have hwpr : w.heap.size + 1 < pr := hw2
  clear hLe hOe hs3 hnc3 hrc3 hw2 hbr2
  have HI0 := Lib.hid (RelSt.start (L := L) rfl HO3.out)
  have HKW : Hid (∀ {hi : Nat} {wr : World} {rs : List (List Int)}, RelSt W.heap.size hi W wr L O P.n rs → wr.cell? ⟨pr, 0, none⟩ = some (.pointer (some ⟨br, 0, none⟩)) ∧ RulesAt wr br P) := Lib.hid (fun hS => ⟨(World.cell?_of_block (a := ⟨pr, 0, none⟩) (hS.old pr (by omega) (by omega) (by omega))).trans HPR.out, HRW.out.block (hS.old br (by omega) (by omega) (by omega))⟩)
  go_loopw [37] (fun s wr => ∃ i : Nat, i ≤ P.n ∧ s = .int .i64 i ∧ RelSt W.heap.size wr.heap.size W wr L O P.n (relsI P i) ∧ wr.heap[L]? = some (.cells #[.int .i64 (tot (relsI P i))] 3 (0, 0))) (fun s _ => P.n - (intOf s).toNat)
  case atStart => exact ⟨0, Nat.zero_le _, rfl, HI0.out, HL3.out⟩
  case round =>
    obtain ⟨i, hi, rfl, hS, hL⟩ := hrel
    have hS' := hS
    have HS := Lib.hid hS
    have HLr := Lib.hid hL
    clear hS hL
    by_cases hlt : i < P.n
    · obtain ⟨hpc, hRr⟩ := HKW.out HS.out
      have hi0 : (0 : Int) ≤ (i : Int) := Int.natCast_nonneg _
      have hi12 : (i : Int) < 12 := by omega
      have hin : (i : Int) < (P.n : Int) := by omega
      have hoi := HV.out.ord2 i hlt
      obtain ⟨q, hq⟩ : ∃ q : Nat, P.ord i = (q : Int) := ⟨(P.ord i).toNat, by omega⟩
      have hq1 : q ≤ 1000 := by omega
      have HQ := Lib.hid hq
      have hoc := hRr.ordc (i := i) (by omega)
      rw [hq] at hoc
      clear hoi hq
      have HSS : Hid (∀ w' : World, Below wr.heap.size wr w' → (w'.cell? ⟨pr, 0, none⟩ = some (.pointer (some ⟨br, 0, none⟩)) ∧ w'.cell? ⟨br, 1 + i, none⟩ = some (.int .i64 (q : Int)) ∧ w'.rangeAt br (13 + i * 12) (vec (P.pow i)))) :=
        Lib.hid (fun w' hb => ⟨(KC.of_below hb).cell hpc, (KC.of_below hb).cell hoc, (KC.of_below hb).range (hRr.pow i (by omega))⟩)
      have HW := Lib.hid ((Below.refl wr.heap.size wr).drew)
      have hwr : IntKind.i64.wrap ((i : Int) + 1) = (i : Int) + 1 := by rw [IntKind.wrap_i64]; omega
      have hREP : Calls Try.prog 68 #[.slice (some ⟨wr.heap.size, 0, none⟩) 1 1, .int .i64 (q : Int)] (wr.alloc (.cells #[.int .i64 (IntKind.i64.wrap ((i : Int) + 1))] 3)).drew _ := repeat_any (wr.alloc (.cells #[.int .i64 (IntKind.i64.wrap ((i : Int) + 1))] 3)).drew wr.heap.size 0 1 ((i : Int) + 1) q hq1 ((cell_of_row _ _ 0 _ _ _ (heap_alloc_new wr _)).trans (by rw [hwr]; rfl))
      have HREP := Lib.hid hREP
      have HBA : Hid (Below wr.heap.size wr (wr.alloc (.cells #[.int .i64 (IntKind.i64.wrap ((i : Int) + 1))] 3)).drew) := Lib.hid ((Below.refl wr.heap.size wr).alloc (Nat.le_refl _) _).drew
      have HSK : Hid (∀ {hi : Nat} {wr : World} {rs : List (List Int)}, RelSt W.heap.size hi W wr L O P.n rs → wr.cell? ⟨pr, 0, none⟩ = some (.pointer (some ⟨br, 0, none⟩)) ∧ wr.cell? ⟨br, 1 + i, none⟩ = some (.int .i64 (q : Int)) ∧ wr.rangeAt br (13 + i * 12) (vec (P.pow i))) :=
        Lib.hid (fun hS => ⟨(HKW.out hS).1, by rw [← HQ.out]; exact (HKW.out hS).2.ordc (by omega), (HKW.out hS).2.pow i (by omega)⟩)
      have hu82 := Try.underlying87
      have hi82 : (Try.prog.info? 87).map (·.size) = some (vec (P.pow i)).length := by rw [length_vec]; exact info82
      have hl82 := length_vec (P.pow i)
      have ho82 : ∀ v ∈ vec (P.pow i), v.oneCell' = true := by intro v hv; simp [vec] at hv; obtain ⟨k, _, rfl⟩ := hv; rfl
      have HFW := few_I HV.out i hi
      clear hREP hpc hRr hoc hwr
      go_wp2_with fail
      go_region_held3 (fun w' => w'.cell? ⟨pr, 0, none⟩ = some (.pointer (some ⟨br, 0, none⟩)) ∧ w'.cell? ⟨br, 1 + i, none⟩ = some (.int .i64 (q : Int)) ∧ w'.rangeAt br (13 + i * 12) (vec (P.pow i))) (first | exact HSK.out HS4.out | exact HSS.out _ HW.out | exact HSS.out _ HBA.out)
        (first
        | (go_at_call 68
           (refine HREP.out.mono ?_)
           rintro e w3 ⟨u, rfl, ⟨g, rfl, hg1, hg2⟩, hb3⟩
           have hbw3 : Below wr.heap.size wr w3 := HBA.out.trans (hb3.mono (HBA.out.size))
           have hg3 : wr.heap.size ≤ g := by simp at hg1; omega
           have HW := Lib.hid hbw3
           have HG := Lib.hid hg2
           clear hg1 hg2 hb3 hbw3)
        | (go_at_call 67
           (refine (add_any (HS.out.below (by omega) HW.out) ((HW.out.block L (by have := HS.out.lh; omega)).trans HLr.out) hLl (by omega) (by omega) (HSS.out _ HW.out).1 (by omega) ((HKW.out (HS.out.below (by omega) HW.out)).2.n) (by omega) (owns_rep HG.out hg3 hq1) (fun x hx => by rw [(List.mem_replicate.1 hx).2]; omega) (pow_le HV.out hlt) hn12 (by rw [List.length_replicate]; omega) (by have := HFW.1; omega) (by have := HFW.2; omega)).mono ?_)
           rintro e w4 ⟨rfl, hS4, hL4⟩
           have HS4 := Lib.hid hS4
           have HL4 := Lib.hid hL4
           clear hS4 hL4))
      clear HSS HW HREP HBA HSK
      go_wp2_with fail
      have e1 : relsI P (i + 1) = relsI P i ++ [List.replicate q ((i : Int) + 1) ++ back (P.pow i) P.n] := by
        show relsI P i ++ [List.replicate (P.ord i).toNat ((i : Int) + 1) ++ back (P.pow i) P.n] = _
        rw [HQ.out, Int.toNat_natCast]
      have HE3 := Lib.hid e1
      clear e1
      go_roundw
      case rel => exact ⟨i + 1, by omega, by go_num, by rw [HE3.out]; exact HS4.out, by rw [HE3.out]; exact HL4.out⟩
      case measure => simp [intOf]; omega
    · obtain rfl : i = P.n := by omega
      rename World => wa
      obtain ⟨hpc, hRr⟩ := HKW.out HS.out
      have hnr := hRr.n
      have hA1 : relsI P P.n = relsI P P.n ++ relsC P 0 := by rw [show relsC P 0 = [] from rfl, List.append_nil]
      have hS1 := HS.out
      have hL1 := HLr.out
      rw [hA1] at hS1 hL1
      have HS1 := Lib.hid hS1
      have HL1 := Lib.hid hL1
      clear hA1 hS1 hL1 hRr HS HLr hS' HI0
      go_wp2_with fail
      clear hpc hnr
      go_loopw [63] (fun s wr => ∃ j : Nat, j ≤ P.n ∧ s = .int .i64 j ∧ RelSt W.heap.size wr.heap.size W wr L O P.n (relsI P P.n ++ relsC P j) ∧ wr.heap[L]? = some (.cells #[.int .i64 (tot (relsI P P.n ++ relsC P j))] 3 (0, 0))) (fun s _ => P.n - (intOf s).toNat)
      case atStart => exact ⟨0, Nat.zero_le _, rfl, HS1.out, HL1.out⟩
      case round =>
        obtain ⟨j, hj, rfl, hS, hL⟩ := hrel
        have HS := Lib.hid hS
        have HLr := Lib.hid hL
        clear hS hL HS1 HL1
        by_cases hlt : j < P.n
        · have hj0 : (0 : Int) ≤ (j : Int) := Int.natCast_nonneg _
          have hj12 : (j : Int) < 12 := by omega
          have hjn : (j : Int) < (P.n : Int) := by omega
          rename World => wb
          have hA1 : relsI P P.n ++ relsC P j = relsI P P.n ++ (relsC P j ++ relsJ P j 0) := by rw [show relsJ P j 0 = [] from rfl, List.append_nil]
          have hS1 := HS.out
          have hL1 := HLr.out
          rw [hA1] at hS1 hL1
          have HS1 := Lib.hid hS1
          have HL1 := Lib.hid hL1
          clear hA1 hS1 hL1 HS HLr
          go_wp2_with fail
          go_loopw [67] (fun s wr => ∃ i : Nat, i ≤ j ∧ s = .int .i64 i ∧ RelSt W.heap.size wr.heap.size W wr L O P.n (relsI P P.n ++ (relsC P j ++ relsJ P j i)) ∧ wr.heap[L]? = some (.cells #[.int .i64 (tot (relsI P P.n ++ (relsC P j ++ relsJ P j i)))] 3 (0, 0))) (fun s _ => j - (intOf s).toNat)
          case atStart => exact ⟨0, Nat.zero_le _, rfl, HS1.out, HL1.out⟩
          case round =>
            obtain ⟨i, hi, rfl, hS, hL⟩ := hrel
            have HS := Lib.hid hS
            have HLr := Lib.hid hL
            clear hS hL HS1 HL1
            by_cases hij : i < j
            · have hi0 : (0 : Int) ≤ (i : Int) := Int.natCast_nonneg _
              have hi12 : (i : Int) < 12 := by omega
              have hij' : (i : Int) < (j : Int) := by omega
              have hpa : (wr.alloc (.cells #[.int .i64 (-(i : Int) - 1), .int .i64 ((j : Int) + 1), .int .i64 ((i : Int) + 1)] 3)).cell? ⟨pr, 0, none⟩ = some (.pointer (some ⟨br, 0, none⟩)) := (KC.of_below ((Below.refl _ wr).alloc (Nat.le_refl _) _)).cell (HKW.out HS.out).1
              have hra : Hid (RulesAt (wr.alloc (.cells #[.int .i64 (-(i : Int) - 1), .int .i64 ((j : Int) + 1), .int .i64 ((i : Int) + 1)] 3)) br P) := Lib.hid ((HKW.out HS.out).2.below ((Below.refl _ wr).alloc (Nat.le_refl _) _))
              have HBA : Hid (Below wr.heap.size wr (wr.alloc (.cells #[.int .i64 (-(i : Int) - 1), .int .i64 ((j : Int) + 1), .int .i64 ((i : Int) + 1)] 3))) := Lib.hid ((Below.refl _ wr).alloc (Nat.le_refl _) _)
              have HOW : Hid ((wr.alloc (.cells #[.int .i64 (-(i : Int) - 1), .int .i64 ((j : Int) + 1), .int .i64 ((i : Int) + 1)] 3)).ownsRow wr.heap.size 3 1 (.slice (some ⟨wr.heap.size, 0, none⟩) 3 3) [-(i : Int) - 1, (j : Int) + 1, (i : Int) + 1].length (ints [-(i : Int) - 1, (j : Int) + 1, (i : Int) + 1])) := Lib.hid (owns_three (heap_alloc_new wr _) (Nat.le_refl _))
              have HFW := Lib.hid ((few_I HV.out P.n (Nat.le_refl _)).app ((few_C HV.out j hj).app (few_J HV.out hlt i hi)))
              go_wp2_with (first
                | (refine wpList_load_mid rfl 87 (.tmp 85) rfl br _ rfl (vec (P.cj j i)) _ (hra.out.cj j (by omega) i (by omega)) Try.underlying87 rfl (by rw [length_vec]; exact info82) ?_)
                | (go_at_call 67
                   (refine (add_any (HS.out.below (by omega) HBA.out) ((HBA.out.block L (by have := HS.out.lh; have := HS.out.hs; omega)).trans HLr.out) hLl (by omega) (by omega) hpa (by omega) hra.out.n (by omega) HOW.out (fun x hx => by simp at hx; omega) (cj_le HV.out hlt hij) hn12 (by simp) (by have := HFW.out.1; omega) (by have := HFW.out.2; omega)).mono ?_)
                   rintro e w4 ⟨rfl, hS4, hL4⟩
                   have HS4 := Lib.hid hS4
                   have HL4 := Lib.hid hL4
                   clear hS4 hL4))
              have e1 : relsI P P.n ++ (relsC P j ++ relsJ P j (i + 1)) = relsI P P.n ++ (relsC P j ++ relsJ P j i) ++ [[-(i : Int) - 1, (j : Int) + 1, (i : Int) + 1] ++ back (P.cj j i) P.n] := by
                rw [List.append_assoc, List.append_assoc]; rfl
              exact ⟨⟨i + 1, by omega, by go_num, by rw [e1]; exact HS4.out, by rw [e1]; exact HL4.out⟩, by simp [intOf]; omega⟩
            · obtain rfl : i = j := by omega
              go_wp2_with fail
              go_roundw
              case rel => exact ⟨i + 1, by omega, by go_num, HS.out, HLr.out⟩
              case measure => simp [intOf]; omega
        · obtain rfl : j = P.n := by omega
          have hcL : wr.cell? ⟨L, 0, none⟩ = some (.int .i64 (tot (rels P))) := by rw [cell_of_row _ _ _ _ _ _ HLr.out]; rfl
          have HFW := Lib.hid ((few_I HV.out P.n (Nat.le_refl _)).app (few_C HV.out P.n (Nat.le_refl _)))
          have ht1 : tot (rels P) ≤ 2028000 := by have := HFW.out.2; unfold rels; omega
          have ht0 := tot_nonneg (rels P)
          have HG4 : Hid (wr.heap[w.heap.size + 1]? = some (.cells #[.int .i64 0, .slice none 0 0] 46 (0, 0))) := Lib.hid ((HS.out.old _ (by omega) (by omega) (by omega)).trans HG3.out)
          have HBE : Hid (Below w.heap.size w wr) := Lib.hid (HBW.out.trans (HS.out.to_below (Nat.le_refl _) (by omega) (by omega) (by omega)))
          clear HLr
          by_cases ht : tot (rels P) > 4000
          · have HD := Lib.hid (show relsD P = (4, 0, []) by unfold relsD; rw [if_neg (by simp [HE.out]), if_neg (by omega), if_pos ht])
            have d2 : decide (tot (rels P) > 4000) = true := by simpa using ht
            go_wp2_with (first
              | ((with_reducible refine wpList_sel 92 ?_); refine wpList_val rfl (r_build46 rfl) ?_; refine wpList_skip rfl (r_store46 (.tmp 2) (.tmp 92) rfl (w.heap.size + 1) _ #[.int .i64 0, .slice none 0 0] rfl rfl HG4.out rfl rfl one46) ?_))
            refine bodyPost_ret (results_46_tmp (p := 2) (q := 3) rfl _ _ (w.heap.size + 1) #[.int .i64 0, .slice none 0 0] (.int .i64 4) rfl rfl (setRow_heap _ _ _ _ _ _ HG4.out) rfl) rfl ⟨.slice none 0 0, ?_, ?_, ?_⟩
            · rw [HD.out]
            · rw [HD.out]; exact tab_nil
            · exact HBE.out.trans ⟨rfl, rfl, rfl, by rw [World.setRow]; simp, fun k hk => setRow_other _ _ k _ (by omega)⟩
          · have HD := Lib.hid (show relsD P = (0, (P.n : Int), rels P) by unfold relsD; rw [if_neg (by simp [HE.out]), if_neg (by omega), if_neg ht])
            have d2 : decide (tot (rels P) > 4000) = false := by simpa using ht
            have htab := fun (cs : Array Value) => HS.out.tab (w' := wr.setRow (w.heap.size + 1) cs) (fun k hk _ => setRow_other _ _ k _ (by omega))
            obtain ⟨A, c, hOc, -⟩ := htab #[]
            have htb : Tab (wr.setRow (w.heap.size + 1) #[.int .i64 P.n, .slice A (rels P).length c]) (.slice A (rels P).length c) (rels P) := by
              obtain ⟨A', c', hOc', ht'⟩ := htab #[.int .i64 P.n, .slice A (rels P).length c]
              rw [hOc] at hOc'
              have e := Option.some.inj hOc'
              injection e with e1
              have e2 : (Value.slice A (rels P).length c) = .slice A' (rels P).length c' := by
                have := congrArg (fun a : Array Value => a[1]?) e1
                simpa using this
              have ht2 : Tab (wr.setRow (w.heap.size + 1) #[.int .i64 P.n, .slice A (rels P).length c]) (.slice A' (rels P).length c') (rels P) := ht'
              rw [← e2] at ht2; exact ht2
            have HOC := Lib.hid hOc
            have HTB := Lib.hid htb
            clear htab hOc htb
            go_wp2_with (first
              | ((with_reducible refine wpList_sel 93 ?_); refine wpList_val rfl (r_load46 (.tmp 6) O _ _ rfl rfl HOC.out) ?_; refine wpList_skip rfl (r_store46 (.tmp 2) (.tmp 93) rfl (w.heap.size + 1) _ #[.int .i64 P.n, .slice A (rels P).length c] rfl rfl HG4.out rfl rfl (by simp [Value.oneCell'])) ?_))
            refine bodyPost_ret (results_46_tmp (p := 2) (q := 3) rfl _ _ (w.heap.size + 1) #[.int .i64 P.n, .slice A (rels P).length c] (.int .i64 0) rfl rfl (setRow_heap _ _ _ _ _ _ HG4.out) rfl) rfl ⟨.slice A (rels P).length c, ?_, ?_, ?_⟩
            · rw [HD.out]
            · rw [HD.out]; exact HTB.out
            · exact HBE.out.trans ⟨rfl, rfl, rfl, by rw [World.setRow]; simp, fun k hk => setRow_other _ _ k _ (by omega)⟩
end Go.Proofs
namespace Go.Proofs
open Go.RowKit Go.Proofs.Pc
theorem rel_any (w : World) (v0 v1 v2 : Value) (P : PcD) (hP : PcAt w v0 v1 v2 P) : Calls Try.prog 26 #[.agg #[v0, v1, v2]] w (RelPost P w) := by
  by_cases he : (checkD P).1 = 0
  · by_cases hn : P.n = 0
    · exact rel_zero w v0 v1 v2 P hP he hn
    · exact rel_good w v0 v1 v2 P hP he (by omega)
  · exact rel_bad w v0 v1 v2 P hP he
theorem RelPost.open_ {P : PcD} {w : World} {r1 r2 : Int} {r3 : List (List Int)} (h : relsD P = (r1, r2, r3)) {e : Ending} {w' : World} (hr : RelPost P w e w') :
    ∃ A c, e = .returned (.tuple #[.agg #[.int .i64 r2, .slice A r3.length c], .int .i64 r1]) ∧ Tab w' (.slice A r3.length c) r3 ∧ Below w.heap.size w w' := by
  obtain ⟨va, he, ht, hb⟩ := hr
  rw [h] at he ht
  obtain ⟨A, c, rfl, -⟩ := ht.open_
  exact ⟨A, c, he, ht, hb⟩
/-- the boxes of CollectChecks -/
structure Ck (w : World) (P : PcD) (a0 a1 a2 o0 o1 o2 : Value) (bo : Nat) (W : World) : Prop where
  below : Below w.heap.size w W
  box : W.heap[w.heap.size]? = some (.cells #[a0, a1, a2] 26 (0, 0))
  obox : W.heap[bo]? = some (.cells #[o0, o1, o2] 26 (0, 0))
  own : PcAt W o0 o1 o2 P
theorem Ck.step {w W W' : World} {P : PcD} {a0 a1 a2 o0 o1 o2 : Value} {bo : Nat} (h : Ck w P a0 a1 a2 o0 o1 o2 bo W) (hb : Below W.heap.size W W') : Ck w P a0 a1 a2 o0 o1 o2 bo W' :=
  ⟨h.below.trans (hb.mono h.below.size), (hb.block _ (Array.getElem?_eq_some_iff.1 h.box).1).trans h.box, (hb.block _ (Array.getElem?_eq_some_iff.1 h.obox).1).trans h.obox, h.own.below hb⟩
theorem Ck.c {w W : World} {P : PcD} {a0 a1 a2 o0 o1 o2 : Value} {bo : Nat} (h : Ck w P a0 a1 a2 o0 o1 o2 bo W) :
    (W.cell? ⟨w.heap.size, 0, none⟩ = some a0 ∧ W.cell? ⟨w.heap.size, 1, none⟩ = some a1 ∧ W.cell? ⟨w.heap.size, 2, none⟩ = some a2) ∧ W.cell? ⟨bo, 0, none⟩ = some o0 ∧ W.cell? ⟨bo, 1, none⟩ = some o1 ∧ W.cell? ⟨bo, 2, none⟩ = some o2 := by
  refine ⟨⟨?_, ?_, ?_⟩, ?_, ?_, ?_⟩
  · rw [cell_of_row _ _ _ _ _ _ h.box]; rfl
  · rw [cell_of_row _ _ _ _ _ _ h.box]; rfl
  · rw [cell_of_row _ _ _ _ _ _ h.box]; rfl
  · rw [cell_of_row _ _ _ _ _ _ h.obox]; rfl
  · rw [cell_of_row _ _ _ _ _ _ h.obox]; rfl
  · rw [cell_of_row _ _ _ _ _ _ h.obox]; rfl
end Go.Proofs
namespace Go.Proofs
open Go.RowKit Go.Proofs.Pc
set_option maxRecDepth 100000 in
set_option maxHeartbeats 1000000 in
theorem known_1 (w : World) (x : Int) (hx : -9223372036854775808 ≤ x ∧ x ≤ 9223372036854775807) (ht : x % 12 = 1) : Calls Try.prog 29 #[.int .i64 x] w (KnownPost w (knownD 1)) := by
  have HT := Lib.hid ht
  clear ht
  go_enter Try.func29, Try.ntmps29
  go_wp2_with (go_at_call 47; (refine (turn_any _ x 12 (by omega) (by omega) hx).mono ?_); rintro e w' ⟨rfl, rfl⟩; rw [HT.out])
  refine ret28 w [_, _, _, _, _, _, _, _, _] _ _ _ _ _ rfl rfl rfl (fun lk => ?_)
  exact ⟨ints_lit _ (lk 1 _ rfl) rfl (by decide) rfl, tab_lit (lk 4 _ rfl) rfl (by decide) ⟨ints_lit _ (lk 2 _ rfl) rfl (by decide) rfl, ints_lit _ (lk 3 _ rfl) rfl (by decide) rfl, trivial⟩, tab3_lit (lk 8 _ rfl) rfl (by decide) ⟨tab_lit (vs := []) (lk 5 _ rfl) rfl (by decide) trivial, tab_lit (lk 7 _ rfl) rfl (by decide) ⟨ints_lit _ (lk 6 _ rfl) rfl (by decide) rfl, trivial⟩, trivial⟩⟩
set_option maxRecDepth 100000 in
set_option maxHeartbeats 1000000 in
theorem known_2 (w : World) (x : Int) (hx : -9223372036854775808 ≤ x ∧ x ≤ 9223372036854775807) (ht : x % 12 = 2) : Calls Try.prog 29 #[.int .i64 x] w (KnownPost w (knownD 2)) := by
  have HT := Lib.hid ht
  clear ht
  go_enter Try.func29, Try.ntmps29
  go_wp2_with (go_at_call 47; (refine (turn_any _ x 12 (by omega) (by omega) hx).mono ?_); rintro e w' ⟨rfl, rfl⟩; rw [HT.out])
  refine ret28 w [_, _, _, _, _, _, _, _, _] _ _ _ _ _ rfl rfl rfl (fun lk => ?_)
  exact ⟨ints_lit _ (lk 1 _ rfl) rfl (by decide) rfl, tab_lit (lk 4 _ rfl) rfl (by decide) ⟨ints_lit _ (lk 2 _ rfl) rfl (by decide) rfl, ints_lit _ (lk 3 _ rfl) rfl (by decide) rfl, trivial⟩, tab3_lit (lk 8 _ rfl) rfl (by decide) ⟨tab_lit (vs := []) (lk 5 _ rfl) rfl (by decide) trivial, tab_lit (lk 7 _ rfl) rfl (by decide) ⟨ints_lit _ (lk 6 _ rfl) rfl (by decide) rfl, trivial⟩, trivial⟩⟩
end Go.Proofs
namespace Go.Proofs
open Go.RowKit Go.Proofs.Pc
theorem isPer_of {P : PcD} {x : List Int} {n : Nat} (h1 : 1 ≤ n) (h2 : npow P x n = zV P) (h3 : ∀ j, j < n → 1 ≤ j → npow P x j ≠ zV P) : IsPer P x n := ⟨h1, h2, fun j a b => h3 j b a⟩
theorem kv0 : Valid (knownD 0) := valid_of_check (by rw [check_known0])
theorem kinv : invP (knownD 0) [1, 0, 0] = [1, 0, 1] := by decide +kernel
theorem kper1 : IsPer (knownD 0) [1, 1, 0] 4 := isPer_of (by decide) (by decide +kernel) (by decide +kernel)
theorem kper2 : IsPer (knownD 0) [0, 1, 1] 4 := isPer_of (by decide) (by decide +kernel) (by decide +kernel)
theorem kpow : npow (knownD 0) [1, 1, 0] ((3 : Int) % ((4 : Nat) : Int)).toNat = [1, 1, 1] := by decide +kernel
theorem kev : evW (knownD 0) [1, 2, -1, -2] = [0, 0, 1] := by decide +kernel
theorem kgood : ∀ k, k < [1, 2, -1, -2].length → goodL (knownD 0) (([1, 2, -1, -2] : List Int).getD k 0) := by decide +kernel
theorem krk : rk (knownD 0) [1, 0, 1] (knownD 0).n = 5 := by decide +kernel
theorem kel : elP (knownD 0) 6 = [1, 1, 0] := by decide +kernel
theorem kt1 : takeErr (knownD 0) [1, 0, 0] = 0 := by decide +kernel
theorem kt2 : takeErr (knownD 0) [1, 1, 0] = 0 := by decide +kernel
theorem kt3 : takeErr (knownD 0) [0, 1, 1] = 0 := by decide +kernel
theorem kt4 : takeErr (knownD 0) [1, 0, 1] = 0 := by decide +kernel
def sixD : PcD := ⟨[3, 2], [[0, 0], [0, 0]], [[], [[0, 1]]]⟩
def badD : PcD := ⟨[2, 3], [[0, 1], [0, 0]], [[], [[0, 2]]]⟩
def c1D : PcD := ⟨[1], [[0]], [[]]⟩
def c2D : PcD := ⟨[2], [], []⟩
def c3D : PcD := ⟨[2], [[1]], [[]]⟩
theorem six1 : (checkD sixD).1 = 0 := by decide +kernel
theorem six2 : consB sixD = true := by decide +kernel
theorem bad1 : (checkD badD).1 = 0 := by decide +kernel
theorem bad2 : consB badD = false := by decide +kernel
theorem two1 : (checkD (knownD 2)).1 = 0 := by decide +kernel
theorem two2 : consB (knownD 2) = true := by decide +kernel
theorem one1 : relsD (knownD 1) = (0, 2, [[1, 1], [2, 2, 2], [-1, 2, 1, -2, -2]]) := by decide +kernel
theorem chkc1 : checkD c1D = (2, 1) := by decide +kernel
theorem chkc2 : checkD c2D = (3, 0) := by decide +kernel
theorem chkc3 : checkD c3D = (2, 1) := by decide +kernel
end Go.Proofs
namespace Go.Proofs
open Go.RowKit Go.Proofs.Pc
theorem nil_sl {w : World} : Sl w (.slice none 0 0) [] := ⟨none, 0, 0, rfl, rfl, Nat.le_refl _, by simp, fun h => absurd h (by simp)⟩
/-- block bl holds the two groups -/
structure Alls (w : World) (wr : World) : Prop where
  g0 : wr.cell? ⟨w.heap.size + 1, 0, none⟩ = some (.pointer none)
  g1 : wr.cell? ⟨w.heap.size + 1, 1, none⟩ = some (.pointer (some ⟨w.heap.size, 0, none⟩))
  d1 : wr.cell? ⟨w.heap.size, 0, none⟩ = some (.pointer none)
  below : Below w.heap.size w wr
theorem Alls.step {w wr w' : World} (h : Alls w wr) (hb : Below wr.heap.size wr w') : Alls w w' := by
  have hk : ∀ {p : Addr} {v : Value}, wr.cell? p = some v → w'.cell? p = some v := fun {p v} hc => (hb.cell (World.block_lt_of_cell? wr _ hc)).trans hc
  exact ⟨hk h.g0, hk h.g1, hk h.d1, h.below.trans (hb.mono h.below.size)⟩
end Go.Proofs
