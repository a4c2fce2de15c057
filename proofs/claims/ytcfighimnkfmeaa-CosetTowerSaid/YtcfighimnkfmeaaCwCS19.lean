/- What the slots of a drawn region hold, each in blocks of its own (for the law of T2); The walk of CosetHolds; Calls as operations of a drawn region; what Enumerate answers, by blocks. -/
import Derived.Test.YtcfighimnkfmeaaCwCS18
import Derived.Test.YtcfighimnkfmeaaCwCS14
namespace Go.Proofs
open Go.RowKit Go.Shelf Go.Proofs.Ct Go.Maps
/-- u reads as the rows ys by the blocks of F -/
def TabS (F : Nat → Prop) (w : World) (u : Value) (ys : List (List Int)) : Prop := ∃ vs, (∀ w', Ag F w w' → Sl w' u vs) ∧ RowsF F w vs ys
/-- reading alone -/
def RdT (F : Nat → Prop) (w : World) (u : Value) (ys : List (List Int)) : Prop := ∀ w', Ag F w w' → Tab w' u ys
section
variable {F G : Nat → Prop} {w w' : World} {u : Value} {ys : List (List Int)}
theorem TabS.keep (h : TabS F w u ys) (ha : Ag F w w') : TabS F w' u ys := by
  obtain ⟨vs, h1, h2⟩ := h
  exact ⟨vs, fun w'' h' => h1 w'' (ha.trans h'), h2.keep ha fun _ h => h⟩
theorem TabS.mono (h : TabS F w u ys) (hg : ∀ k, F k → G k) : TabS G w u ys := by
  obtain ⟨vs, h1, h2⟩ := h
  exact ⟨vs, fun w' h' => h1 w' fun k hk => h' k (hg k hk), h2.keep (Ag.refl _ _) hg⟩
theorem TabS.tab (h : TabS F w u ys) : Tab w u ys := by
  obtain ⟨vs, h1, h2⟩ := h
  exact ⟨vs, h1 w (Ag.refl _ _), h2.1, fun i hi => let ⟨x, hx, hr⟩ := h2.2 i hi; ⟨x, hx, hr.at_⟩⟩
theorem TabS.rd (h : TabS F w u ys) : RdT F w u ys := fun _ ha => (h.keep ha).tab
theorem RdT.keep (h : RdT F w u ys) (ha : Ag F w w') : RdT F w' u ys := fun w'' h' => h w'' (ha.trans h')
theorem RdT.mono (h : RdT F w u ys) (hg : ∀ k, F k → G k) : RdT G w u ys := fun w' h' => h w' fun k hk => h' k (hg k hk)
theorem RdT.tab (h : RdT F w u ys) : Tab w u ys := h w (Ag.refl _ _)
theorem TabS.of_tab (h : Tab w u ys) : TabS (fun k => k < w.heap.size) w u ys := by
  obtain ⟨vs, h1, h2, h3⟩ := h
  exact ⟨vs, fun w' ha => h1.keep (cell_blocks ha), h2, fun i hi => let ⟨x, hx, hr⟩ := h3 i hi; ⟨x, hx, IntsF.of_at hr⟩⟩
theorem TabS.of_own {e : TypeId} {base : Nat} (h : OwnT e base F w u ys) (hv : ∀ r, u.ownBlock = some r → G r) (hg : ∀ k, F k → G k) : TabS G w u ys := by
  obtain ⟨vs, h1, h2⟩ := h
  exact ⟨vs, fun w' ha => sl_of_owns (owns_keep h1 fun r hr => ha r (hv r hr)), h2.keep (Ag.refl _ _) hg⟩
theorem RdT.of_tabB {base : Nat} (h : TabB base w u ys) : RdT (fun k => base ≤ k ∧ k < w.heap.size) w u ys := fun w' ha => h w' fun k h1 h2 => ha k ⟨h1, h2⟩
end
/-- what a slot holds -/
inductive FP where
  | any | eq (v : Value) | ints (l : List Int) | tab (l : List (List Int)) | rd (l : List (List Int)) | own (l : List Int) | ownT (l : List (List Int)) | box (e : TypeId) (cs : Array Value) | enum (t : List (List Int)) (a b c : Int)
def Fb (base : Nat) (O : Nat → Prop) : Nat → Prop := fun k => k < base ∨ O k
def FP.holds (base : Nat) : FP → Value → (Nat → Prop) → World → Prop
  | .any, _, _, _ => True
  | .eq u, v, _, _ => v = u
  | .ints l, v, O, w => ∃ A c, v = .slice A l.length c ∧ IntsF (Fb base O) w (.slice A l.length c) l
  | .tab l, v, O, w => ∃ A c, v = .slice A l.length c ∧ TabS (Fb base O) w (.slice A l.length c) l
  | .rd l, v, O, w => ∃ A c, v = .slice A l.length c ∧ RdT (Fb base O) w (.slice A l.length c) l
  | .own l, v, O, w => ∃ A c, v = .slice A l.length c ∧ OwnI base w (.slice A l.length c) l ∧ ∀ r, (Value.slice A l.length c).ownBlock = some r → O r
  | .ownT l, v, O, w => ∃ A c F, v = .slice A l.length c ∧ OwnT 25 base F w (.slice A l.length c) l ∧ (∀ k, F k → Fb base O k ∧ k < w.heap.size ∧ (Value.slice A l.length c).ownBlock ≠ some k) ∧ ∀ r, (Value.slice A l.length c).ownBlock = some r → O r
  | .box e cs, v, O, w => ∃ q, v = .pointer (some ⟨q, 0, none⟩) ∧ O q ∧ w.heap[q]? = some (.cells cs e (0, 0))
  | .enum t a b c, v, O, w => ∃ A n, v = .tuple #[.slice A t.length n, .agg #[.int .i64 a, .int .i64 b, .int .i64 0], .int .i64 c] ∧ RdT (Fb base O) w (.slice A t.length n) t
section
variable {base : Nat} {O O' : Nat → Prop} {W0 w w' : World} {v : Value}
theorem ag_fb (_hb : W0.heap.size = base) (h1 : Below base W0 w) (h2 : Below base W0 w') (h : ∀ k, O k → w'.heap[k]? = w.heap[k]?) : Ag (Fb base O) w w' := fun k hk => by
  rcases hk with hk | hk
  · rw [h1.block k (by omega), h2.block k (by omega)]
  · exact h k hk
theorem FP.keep {p : FP} (hb : W0.heap.size = base) (h1 : Below base W0 w) (h2 : Below base W0 w') (hs : w.heap.size ≤ w'.heap.size) (h : ∀ k, O k → w'.heap[k]? = w.heap[k]?) : p.holds base v O w → p.holds base v O w' := by
  have ha := ag_fb hb h1 h2 h
  cases p with
  | any => exact id
  | eq u => exact id
  | ints l => exact fun ⟨A, c, e, k⟩ => ⟨A, c, e, k.keep ha⟩
  | tab l => exact fun ⟨A, c, e, k⟩ => ⟨A, c, e, k.keep ha⟩
  | rd l => exact fun ⟨A, c, e, k⟩ => ⟨A, c, e, k.keep ha⟩
  | own l => exact fun ⟨A, c, e, k, k2⟩ => ⟨A, c, e, owns_keep k fun r hr => h r (k2 r hr), k2⟩
  | ownT l => exact fun ⟨A, c, F, e, k, k2, k3⟩ => ⟨A, c, F, e, k.keep (fun r hr => h r (k3 r hr)) (fun x hx => ha x (k2 x hx).1) (fun _ h => h), fun x hx => ⟨(k2 x hx).1, Nat.lt_of_lt_of_le (k2 x hx).2.1 hs, (k2 x hx).2.2⟩, k3⟩
  | box e cs => exact fun ⟨q, e, k, k2⟩ => ⟨q, e, k, (h q k).trans k2⟩
  | enum t a b c => exact fun ⟨A, n, e, k⟩ => ⟨A, n, e, k.keep ha⟩
theorem FP.mono {p : FP} (hO : ∀ k, O k → O' k) : p.holds base v O w → p.holds base v O' w := by
  have hF : ∀ k, Fb base O k → Fb base O' k := fun k hk => hk.imp id (hO k)
  cases p with
  | any => exact id
  | eq u => exact id
  | ints l => exact fun ⟨A, c, e, k⟩ => ⟨A, c, e, k.mono hF⟩
  | tab l => exact fun ⟨A, c, e, k⟩ => ⟨A, c, e, k.mono hF⟩
  | rd l => exact fun ⟨A, c, e, k⟩ => ⟨A, c, e, k.mono hF⟩
  | own l => exact fun ⟨A, c, e, k, k2⟩ => ⟨A, c, e, k, fun r hr => hO r (k2 r hr)⟩
  | ownT l => exact fun ⟨A, c, F, e, k, k2, k3⟩ => ⟨A, c, F, e, k, fun x hx => ⟨hF x (k2 x hx).1, (k2 x hx).2⟩, fun r hr => hO r (k3 r hr)⟩
  | box e cs => exact fun ⟨q, e, k, k2⟩ => ⟨q, e, hO q k, k2⟩
  | enum t a b c => exact fun ⟨A, n, e, k⟩ => ⟨A, n, e, k.mono hF⟩
end
/-- all that an operation may claim as its own -/
def Mx (N : Nat) (wr : Nat → Bool) (us : Nat → Nat → Bool) (O : Nat → Nat → Prop) (i : Nat) (w w' : World) : Nat → Prop := fun k => k < w'.heap.size ∧ (w.heap.size ≤ k ∨ ∃ j, j < N ∧ us i j = true ∧ O j k ∧ (wr i = true → wr j = true))
section
variable {N : Nat} {wr : Nat → Bool} {us : Nat → Nat → Bool} {O : Nat → Nat → Prop} {i : Nat} {w w' : World}
theorem Step.below (h : Below w.heap.size w w') : Step N wr us O i (Mx N wr us O i w w') w w' := ⟨h.size, fun k hk _ => h.block k hk, fun _ h => h⟩
theorem Step.same : Step N wr us O i (Mx N wr us O i w w) w w := Step.below (Below.refl _ _)
theorem Step.grown {row : Option Nat} (h : w.grownBy w' row) (hr : ∀ r, row = some r → ∃ j, j < N ∧ us i j = true ∧ wr j = true ∧ O j r) : Step N wr us O i (Mx N wr us O i w w') w w' := ⟨h.size, fun k hk hn => h.block k hk fun e => by
  obtain ⟨j, h1, h2, h3, h4⟩ := hr k e.symm
  exact hn j h1 h2 h3 h4, fun _ h => h⟩
theorem Mx.fresh {k : Nat} (h1 : w.heap.size ≤ k) (h2 : k < w'.heap.size) : Mx N wr us O i w w' k := ⟨h2, .inl h1⟩
theorem Mx.of {j k : Nat} (hj : j < N) (hu : us i j = true) (hw : wr i = true → wr j = true) (hO : O j k) (hk : k < w'.heap.size) : Mx N wr us O i w w' k := ⟨hk, .inr ⟨j, hj, hu, hO, hw⟩⟩
end
theorem grown_below {w w' W0 : World} {base : Nat} {row : Option Nat} (hb : W0.heap.size = base) (h0 : Below base W0 w) (h : w.grownBy w' row) (hr : ∀ r, row = some r → base ≤ r) : Below base W0 w' :=
  ⟨h.os.trans h0.os, h.tape.trans h0.tape, h.output.trans h0.output, Nat.le_trans h0.size h.size, fun k hk => (h.block k (by have := h0.size; omega) fun e => by have := hr k e.symm; omega).trans (h0.block k hk)⟩
/-- append of rows -/
theorem app_rows {t ty : TypeId} (ht : Try.prog.underlying t = some (.slice 25)) (w : World) (base : Nat) (F : Nat → Prop) (v : Value) (xs : List (List Int)) (h : OwnT 25 base F w v xs) (u : Value) (ys : List (List Int)) (G : Nat → Prop) (hu : TabS G w u ys)
    (hF : ∀ k, F k → k < w.heap.size ∧ v.ownBlock ≠ some k) (hG : ∀ k, G k → k < w.heap.size ∧ v.ownBlock ≠ some k) (hx : xs.length ≤ 1000000) (hy : ys.length ≤ 1000000) (hb : base ≤ w.heap.size) :
    ∃ A' c' w', (Builtin.append_ #[t, t] ty #[v, u]).run Try.prog w = .ok (.slice A' (xs ++ ys).length c') w' ∧ OwnT 25 base (fun k => F k ∨ G k) w' (.slice A' (xs ++ ys).length c') (xs ++ ys) ∧
      w.grownBy w' v.ownBlock ∧ ((Value.slice A' (xs ++ ys).length c').ownBlock = v.ownBlock ∨ ∃ r, (Value.slice A' (xs ++ ys).length c').ownBlock = some r ∧ w.heap.size ≤ r) := by
  obtain ⟨vals, h1, h2⟩ := h
  obtain ⟨vs, h3, h4⟩ := hu
  have hone : ∀ y ∈ vs, y.oneCell' = true := fun y hy => by
    obtain ⟨j, hj, rfl⟩ := List.mem_iff_getElem.1 hy
    obtain ⟨x, hx, hr⟩ := h4.2 j (by rw [← h4.1]; exact hj)
    rw [List.getElem?_eq_getElem hj] at hx
    obtain ⟨A, c, e, -⟩ := hr.at_.open_
    rw [Option.some.inj hx, e]; rfl
  obtain ⟨A', c', w', hr, ho, hg, hw⟩ := run_app (ty := ty) ht info25p rfl (by omega) w base v xs.length vals h1 u vs (h3 w (Ag.refl _ _)) hone hx (by rw [h4.1]; exact hy) hb
  rw [h4.1, ← List.length_append] at hr ho hw
  refine ⟨A', c', w', hr, ⟨vals ++ vs, ho, ?_⟩, hg, hw⟩
  have aF := Ag.grown hg hF
  have aG := Ag.grown hg hG
  refine ⟨by rw [List.length_append, List.length_append, h2.1, h4.1], fun j hj => ?_⟩
  rcases Nat.lt_or_ge j xs.length with hl | hl
  · obtain ⟨x, hx, hr⟩ := h2.2 j hl
    refine ⟨x, by rw [List.getElem?_append_left (by rw [h2.1]; exact hl)]; exact hx, ?_⟩
    rw [show (xs ++ ys).getD j [] = xs.getD j [] by simp [List.getD_eq_getElem?_getD, List.getElem?_append_left hl]]
    exact (hr.keep aF).mono fun k hk => .inl hk
  · obtain ⟨x, hx, hr⟩ := h4.2 (j - xs.length) (by rw [List.length_append] at hj; omega)
    refine ⟨x, by rw [List.getElem?_append_right (by rw [h2.1]; exact hl), h2.1]; exact hx, ?_⟩
    rw [show (xs ++ ys).getD j [] = ys.getD (j - xs.length) [] by simp [List.getD_eq_getElem?_getD, List.getElem?_append_right hl]]
    exact (hr.keep aG).mono fun k hk => .inr hk
section
variable {o : Oper} {a : Act} {w w' : World} {n : Nat} {v : Value}
theorem bs31_0 (w : World) : (Instr.buildSlice 31 0 #[]).run Try.prog w = .ok (.slice (some ⟨w.heap.size, 0, none⟩) 0 0) (w.alloc (.cells #[] 25)) := by kernel_rfl
theorem bs31_1 (A : Option Addr) (n c : Nat) (w : World) : (Instr.buildSlice 31 1 #[(0, .slice A n c)]).run Try.prog w = .ok (.slice (some ⟨w.heap.size, 0, none⟩) 1 1) (w.alloc (.cells #[.slice A n c] 25)) := by kernel_rfl
theorem r_bs31_0 (ho : o.op = .buildSlice 31 0 #[]) : (execOp a.eval o).run Try.prog w = .ok (.value (.slice (some ⟨w.heap.size, 0, none⟩) 0 0)) (w.alloc (.cells #[] 25)) := by
  have hb := bs31_0 w
  unfold execOp
  simp only [ho, List.map_toArray, List.map_nil, Sem.run_bind, hb, Result.andThen_ok]
  rfl
theorem r_bs31_1 (x : Operand) (A : Option Addr) (m c : Nat) (ho : o.op = .buildSlice 31 1 #[(0, x)]) (hx : a.eval x = .slice A m c) : (execOp a.eval o).run Try.prog w = .ok (.value (.slice (some ⟨w.heap.size, 0, none⟩) 1 1)) (w.alloc (.cells #[.slice A m c] 25)) := by
  have hb := bs31_1 A m c w
  unfold execOp
  simp only [ho, List.map_toArray, List.map_cons, List.map_nil, hx, Sem.run_bind, hb, Result.andThen_ok]
  rfl
theorem r_extract (k : Nat) (x : Operand) (vs : Array Value) (ho : o.op = .extract x k) (hx : a.eval x = .tuple vs) (hk : vs[k]? = some v) : (execOp a.eval o).run Try.prog w = .ok (.value v) w := by
  unfold execOp
  simp only [ho, hx]
  simp [go_sem, hk]
theorem alloc49 (w : World) : (Instr.alloc 49 true (.tuple #[])).run Try.prog w = .ok (.pointer (some ⟨w.heap.size, 0, none⟩)) (w.alloc (.cells #[.int .i64 0, .int .i64 0, .int .i64 0] 49)) := by kernel_rfl
theorem r_alloc49 (ho : o.op = .alloc 49) : (execOp a.eval o).run Try.prog w = .ok (.value (.pointer (some ⟨w.heap.size, 0, none⟩))) (w.alloc (.cells #[.int .i64 0, .int .i64 0, .int .i64 0] 49)) := by
  have hb := alloc49 w
  unfold execOp
  simp only [ho, Sem.run_bind, hb, Result.andThen_ok]
  rfl
theorem ownT_new (F : Nat → Prop) (w : World) : OwnT 25 w.heap.size F (w.alloc (.cells #[] 25)) (.slice (some ⟨w.heap.size, 0, none⟩) 0 0) [] := by
  refine ⟨[], ⟨rfl, .inr ⟨w.heap.size, 0, #[], rfl, Nat.le_refl _, heap_alloc_new w _, Nat.le_refl _, by simp [maxLen], rfl, by simp⟩⟩, RowsF.nil _ _⟩
end
/-- what append gives, as facts of footprints -/
theorem FP.app_rows {t ty : TypeId} (ht : Try.prog.underlying t = some (.slice 25)) {w : World} {base : Nat} {O1 : Nat → Prop} {v : Value} {xs : List (List Int)} (h : (FP.ownT xs).holds base v O1 w) {u : Value} {ys : List (List Int)} {O2 : Nat → Prop} (hu : TabS (Fb base O2) w u ys)
    (h2 : ∀ k, O2 k → k < w.heap.size ∧ ¬ O1 k) (hx : xs.length ≤ 1000000) (hy : ys.length ≤ 1000000) (hb : base ≤ w.heap.size) :
    ∃ A' c' w', (Builtin.append_ #[t, t] ty #[v, u]).run Try.prog w = .ok (.slice A' (xs ++ ys).length c') w' ∧ w.grownBy w' v.ownBlock ∧ (∀ r, v.ownBlock = some r → O1 r ∧ base ≤ r) ∧
      ∀ O' : Nat → Prop, (∀ k, O1 k → k < w.heap.size → O' k) → (∀ k, O2 k → O' k) → (∀ k, w.heap.size ≤ k → k < w'.heap.size → O' k) → (FP.ownT (xs ++ ys)).holds base (.slice A' (xs ++ ys).length c') O' w' := by
  obtain ⟨A, c, F, rfl, o1, f1, r1⟩ := h
  have hown : ∀ r, (Value.slice A xs.length c).ownBlock = some r → base ≤ r ∧ r < w.heap.size := fun r hr => by
    obtain ⟨vals, k1, -⟩ := o1
    exact ⟨(owns_block k1 r hr).1, owns_lt k1 hr⟩
  obtain ⟨A', c', w', hr, ho, hg, hw⟩ := Go.Proofs.app_rows (ty := ty) ht w base F _ xs o1 u ys (Fb base O2) hu (fun k hk => (f1 k hk).2) (fun k hk => by
    rcases hk with hk | hk
    · exact ⟨by omega, fun e => by have := (hown k e).1; omega⟩
    · exact ⟨(h2 k hk).1, fun e => (h2 k hk).2 (r1 k e)⟩) hx hy hb
  refine ⟨A', c', w', hr, hg, fun r hr => ⟨r1 r hr, (hown r hr).1⟩, fun O' p1 p2 p3 => ⟨A', c', _, rfl, ho, fun k hk => ?_, fun r hr => ?_⟩⟩
  · have hks : k < w.heap.size ∧ (Value.slice A xs.length c).ownBlock ≠ some k ∧ Fb base O' k := by
      rcases hk with hk | hk | hk
      · obtain ⟨a1, a2, a3⟩ := f1 k hk
        exact ⟨a2, a3, a1.imp id fun h => p1 k h a2⟩
      · exact ⟨by omega, fun e => (by have := (hown k e).1; omega), .inl hk⟩
      · exact ⟨(h2 k hk).1, fun e => (h2 k hk).2 (r1 k e), .inr (p2 k hk)⟩
    refine ⟨hks.2.2, Nat.lt_of_lt_of_le hks.1 hg.size, fun e => ?_⟩
    rcases hw with hw | ⟨r, hw, hwr⟩
    · rw [hw] at e; exact hks.2.1 e
    · rw [hw] at e
      have := Option.some.inj e
      omega
  · rcases hw with hw | ⟨q, hw, hwq⟩
    · rw [hw] at hr
      exact p1 r (r1 r hr) (hown r hr).2
    · have e : q = r := by rw [hw] at hr; exact Option.some.inj hr
      subst e
      obtain ⟨vals, k1, -⟩ := ho
      exact p3 q hwq (owns_lt k1 hw)
theorem FP.tab_of_own {w : World} {base : Nat} {O O' : Nat → Prop} {v : Value} {xs : List (List Int)} (h : (FP.ownT xs).holds base v O w) (ho : ∀ k, O k → O' k) : (FP.tab xs).holds base v O' w := by
  obtain ⟨A, c, F, rfl, o1, f1, r1⟩ := h
  exact ⟨A, c, rfl, TabS.of_own o1 (fun r hr => .inr (ho r (r1 r hr))) fun k hk => (f1 k hk).1.imp id (ho k)⟩
theorem info49s : (Try.prog.info? 49).map (·.size) = some 3 := by kernel_rfl
theorem r_store49 {o : Oper} {a : Act} {w : World} (x y : Operand) (ho : o.op = .store 49 x y) (g : Nat) (old : Array Value) (p q r : Int) (hx : a.eval x = .pointer (some ⟨g, 0, none⟩)) (hy : a.eval y = .agg #[.int .i64 p, .int .i64 q, .int .i64 r]) (hg : w.heap[g]? = some (.cells old 49 (0, 0)))
    (hoo : old.size = 3) : (execOp a.eval o).run Try.prog w = .ok .skip (w.setRow g #[.int .i64 p, .int .i64 q, .int .i64 r]) := by
  unfold execOp
  simp only [ho, hx, hy, Instr.storeAt, Instr.sureAddr, Sem.run_bind, Sem.run_pure, Result.andThen_ok, run_storeVar_row w g 49 49 old #[.int .i64 p, .int .i64 q, .int .i64 r] hg (by exact info49s) (by simp [hoo]) (by simp [Value.oneCell'])]
end Go.Proofs
namespace Go.Proofs
open Go.RowKit Go.Shelf Go.Proofs.Ct Go.Maps
theorem cells40 {w : World} {b : Nat} {x y : Value} (h : w.heap[b]? = some (.cells #[x, y] 40 (0, 0))) : w.cell? ⟨b, 0, none⟩ = some x ∧ w.cell? ⟨b, 1, none⟩ = some y := by
  refine ⟨?_, ?_⟩ <;> (rw [cell_of_row _ _ _ _ _ _ h]; rfl)
theorem enumS (g : Int) (rels sub : List W) (limit : Int) (T : Tb) (a b c : Int) (h : enumE g rels sub limit = (T, (a, b), c)) (h1 : ∀ j, (sub.getD j []).length ≤ 100000) (h2 : sub.length ≤ 1000000) (W : World) (vr vs : Value) (hr : Tab W vr rels) (hs : Tab W vs sub) :
    Calls Try.prog 32 #[.agg #[.int .i64 g, vr], vs, .int .i64 limit] W fun e w' => (∃ u, e = .returned (.tuple #[u, .agg #[.int .i64 a, .int .i64 b, .int .i64 0], .int .i64 c]) ∧ Tab w' u T) ∧ Below W.heap.size W w' :=
  (enum32_any W vr vs g rels sub limit hr hs h1 h2).mono fun e w' (⟨⟨u, h5, h6⟩, h7⟩ : EnumPost g rels sub limit W e w') => by
    rw [h] at h5 h6
    exact ⟨⟨u, h5, h6⟩, h7⟩
/-- a box of a presentation is read -/
theorem box40 (W : World) (x y : Value) : ∀ V, Below (W.alloc (.cells #[x, y] 40)).heap.size (W.alloc (.cells #[x, y] 40)) V → (Instr.loadAt 40 (.pointer (some ⟨W.heap.size, 0, none⟩))).run Try.prog V = .ok (.agg #[x, y]) V ∧ V.cell? ⟨W.heap.size, 0, none⟩ = some x := fun V h => by
  have h1 := (h.block W.heap.size (by simp)).trans (heap_alloc_new W (.cells #[x, y] 40))
  exact ⟨load40 h1, (cells40 h1).1⟩
end Go.Proofs
namespace Go.Proofs
open Go.RowKit Go.Shelf Go.Proofs.Ct Go.Maps
theorem call39 (args : Array Value) (w : World) : (callFunc 39 args).run Try.prog w = .ok (.enter 39 args) w := enters_of Try.func39 (by kernel_rfl) rfl args w
theorem call32 (args : Array Value) (w : World) : (callFunc 32 args).run Try.prog w = .ok (.enter 32 args) w := enters_of Try.func32 (by kernel_rfl) rfl args w
theorem call40 (args : Array Value) (w : World) : (callFunc 40 args).run Try.prog w = .ok (.enter 40 args) w := enters_of Try.func40 (by kernel_rfl) rfl args w
theorem call61 (args : Array Value) (w : World) : (callFunc 61 args).run Try.prog w = .ok (.enter 61 args) w := enters_of Try.func61 (by kernel_rfl) rfl args w
section
variable {o : Oper} {a : Act} {w w' : World} {n : Nat} {v : Value} {ops : Array Oper}
theorem r_call1 {f : FuncId} (x : Operand) (u : Value) (T : Array TypeId) (ho : o.op = .call { callee := .value (.func f), args := #[x], argTypes := T }) (hx : a.eval x = u)
    (he : ∀ args w, (callFunc f args).run Try.prog w = .ok (.enter f args) w) : (execOp a.eval o).run Try.prog w = .ok (.enter f #[u]) w := by
  have hf : a.eval (.func f) = .func (.func f) #[] #[] := rfl
  unfold execOp
  simp only [ho, resolve, List.map_toArray, List.map_cons, List.map_nil, hx, hf]
  simp [go_sem, he]
theorem r_call4 {f : FuncId} (x y z q : Operand) (u v s t : Value) (T : Array TypeId) (ho : o.op = .call { callee := .value (.func f), args := #[x, y, z, q], argTypes := T }) (hx : a.eval x = u) (hy : a.eval y = v) (hz : a.eval z = s) (hq : a.eval q = t)
    (he : ∀ args w, (callFunc f args).run Try.prog w = .ok (.enter f args) w) : (execOp a.eval o).run Try.prog w = .ok (.enter f #[u, v, s, t]) w := by
  have hf : a.eval (.func f) = .func (.func f) #[] #[] := rfl
  unfold execOp
  simp only [ho, resolve, List.map_toArray, List.map_cons, List.map_nil, hx, hy, hz, hq, hf]
  simp [go_sem, he]
theorem idx_offs {T E : TypeId} (hu : Try.prog.underlying T = some (.slice E)) (hs : ∀ w, (sizeOf E).run Try.prog w = .ok 1 w) (g off m c i : Nat) (hi : i < m) (w : World) :
    (Instr.indexAt T (.slice (some ⟨g, off, none⟩) m c) (.int .i64 (i : Int))).run Try.prog w = .ok (.pointer (some ⟨g, off + i, none⟩)) w := by
  have h1 : (0 : Int) ≤ (i : Int) ∧ (i : Int) < (m : Int) := ⟨by omega, by omega⟩
  have h2 := Addr.add_mid g off i
  simp [Instr.indexAt, asIntOf, run_underlying hu, hs, h2, hi]
theorem enumSB (g : Int) (rels sub : List W) (limit : Int) (T : Tb) (x y c : Int) (h : enumE g rels sub limit = (T, (x, y), c)) (h1 : ∀ j, (sub.getD j []).length ≤ 100000) (h2 : sub.length ≤ 1000000) (W : World) (vr vs : Value) (hr : Tab W vr rels) (hs : Tab W vs sub) :
    Calls Try.prog 32 #[.agg #[.int .i64 g, vr], vs, .int .i64 limit] W fun e w' => (∃ A m, e = .returned (.tuple #[.slice A T.length m, .agg #[.int .i64 x, .int .i64 y, .int .i64 0], .int .i64 c]) ∧ TabB W.heap.size w' (.slice A T.length m) T) ∧ Below W.heap.size W w' :=
  (enum32_B W vr vs g rels sub limit hr hs h1 h2).mono fun e w' (⟨⟨u, h5, h6⟩, h7⟩ : EnumPostB g rels sub limit W e w') => by
    rw [h] at h5 h6
    obtain ⟨A, m, rfl⟩ := Tab.form h6.at_
    exact ⟨⟨A, m, h5, h6⟩, h7⟩
end
section
variable {N : Nat} {wr : Nat → Bool} {us : Nat → Nat → Bool} {O : Nat → Nat → Prop} {i j : Nat} {w w' W0 : World} {base : Nat} {v : Value}
theorem ownT_start (hb : base ≤ w.heap.size) : (FP.ownT []).holds base (.slice (some ⟨w.heap.size, 0, none⟩) 0 0) (Mx N wr us O i w (w.alloc (.cells #[] 25))) (w.alloc (.cells #[] 25)) := by
  obtain ⟨vals, h1, h2⟩ := ownT_new (fun _ => False) w
  exact ⟨_, _, fun _ => False, rfl, ⟨vals, owns_base h1 hb, h2⟩, fun _ h => h.elim, fun r hr => by
    have : w.heap.size = r := Option.some.inj hr
    subst this
    exact Mx.fresh (Nat.le_refl _) (by simp)⟩
theorem ints_new_own {X : List Int} {A : Option Addr} {c : Nat} (hv : v = .slice A X.length c) (ho : OwnI w.heap.size w' (.slice A X.length c) X) (hf : Fits X) : (FP.ints X).holds base v (Mx N wr us O i w w') w' :=
  ⟨A, c, hv, (IntsF.of_own ho hf).mono fun k hk => .inr (Mx.fresh (owns_block ho k hk).1 (owns_lt ho hk))⟩
theorem step_setRow {q : Nat} (hj : j < N) (hu : us i j = true) (hw : wr j = true) (hq : O j q) (cs : Array Value) : Step N wr us O i (Mx N wr us O i w (w.setRow q cs)) w (w.setRow q cs) :=
  ⟨by rw [World.setRow]; simp, fun k _ hn => setRow_other _ _ _ _ fun e => hn j hj hu hw (by rw [e]; exact hq), fun _ h => h⟩
theorem tab_one_new {X : List Int} {A : Option Addr} {c : Nat} {F G : Nat → Prop} (hx : IntsF G w (.slice A X.length c) X) (hg : ∀ k, G k → F k ∧ k < w.heap.size) (hq : F w.heap.size) : TabS F (w.alloc (.cells #[.slice A X.length c] 25)) (.slice (some ⟨w.heap.size, 0, none⟩) 1 1) [X] := by
  have hal : Below w.heap.size w (w.alloc (.cells #[.slice A X.length c] 25)) := (Below.refl _ _).alloc (Nat.le_refl _) _
  refine ⟨[.slice A X.length c], fun w' ha => ?_, rfl, fun k hk => ?_⟩
  · have h1 := (ha w.heap.size hq).trans (heap_alloc_new w _)
    refine ⟨_, 1, 1, rfl, rfl, Nat.le_refl _, by simp [maxLen], fun _ => ⟨w.heap.size, 0, rfl, fun m u hu => ?_⟩⟩
    rw [cell_of_row _ _ _ _ _ _ h1, Nat.zero_add]
    simpa using hu
  · obtain rfl : k = 0 := by simp at hk; omega
    exact ⟨_, rfl, (hx.keep fun q hq => hal.block q (hg q hq).2).mono fun q hq => (hg q hq).1⟩
end
theorem FP.tab_own {w : World} {base : Nat} {O : Nat → Prop} {v : Value} {xs : List (List Int)} (h : (FP.ownT xs).holds base v O w) : (FP.tab xs).holds base v O w := FP.tab_of_own h fun _ h => h
theorem agg25 (w : World) : (isAgg 25).run Try.prog w = .ok false w := by kernel_rfl
theorem size25 (w : World) : (sizeOf 25).run Try.prog w = .ok 1 w := by kernel_rfl
theorem ints_one_new {N : Nat} {wr : Nat → Bool} {us : Nat → Nat → Bool} {O : Nat → Nat → Prop} {i : Nat} {w : World} {base : Nat} {x : Int} (hf : Fits [x]) : (FP.ints [x]).holds base (.slice (some ⟨w.heap.size, 0, none⟩) 1 1) (Mx N wr us O i w (w.alloc (.cells #[.int .i64 x] 3))) (w.alloc (.cells #[.int .i64 x] 3)) :=
  ⟨_, _, rfl, fun _ ha => ints_blk ((ha w.heap.size (.inr (Mx.fresh (Nat.le_refl _) (by simp)))).trans (heap_alloc_new w _)) hf rfl (by simp)⟩
theorem first_below {B : Nat} {a w : World} (h : Below B a w) {q : Nat} : Below B a (w.drewN q) := below_drewN h q
end Go.Proofs
