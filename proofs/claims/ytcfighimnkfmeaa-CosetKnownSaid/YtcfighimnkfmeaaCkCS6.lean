/- rewrite.of; rewrite.of at a standard table; rewrite.Count; rewrite.Generators; The iterator of (table).walk; A range over a function whose body never leaves the loop; the iterator may write one box of its own; A region that draws its order, by an invariant on its slots: each operation is shown once, whatever order the region is run in. Fenced walk; (system).rewrite; rewrite.Rewrite; Presentations: which are valid, plainly; the letters of a word; pres.Check; Columns of letters; where a word leads; fine; Complete. -/
import Derived.Test.YtcfighimnkfmeaaCkCS5
import Derived.Deep.MidRow
import Derived.Deep.RegionHeld3
import Derived.Test.YtcfighimnkfmeaaCkCS1
import Derived.RangeFuncNested
import Derived.RangeFuncCalls
import Derived.OwnWalkIn
import Derived.TacticsInMore
import Derived.LoopNIn
import Derived.LoopIn
import Derived.RangeFuncFrom
import Derived.OrdersIn
import Derived.TacticsIn
import Derived.Deep.RegionHeld
import Derived.RangeFuncLeaves
namespace Go.Proofs
open Go.RowKit Go.Shelf Go.Proofs.Ct Go.Maps
/-- the system of a table, as it reads -/
structure SysAt (w : World) (vt vr : Value) (bm : Nat) (vl : Value) (t : Tb) (R : List (List Int)) (ps : List (Nat × Nat)) : Prop where
  tab : Tab w vt t
  reps : Tab w vr R
  map : MapP w bm ps
  list : ∃ base, OwnP base w vl ps
theorem SysAt.below {w w' : World} {vt vr : Value} {bm : Nat} {vl : Value} {t : Tb} {R : List (List Int)} {ps : List (Nat × Nat)} (h : SysAt w vt vr bm vl t R ps) (hb : Below w.heap.size w w') : SysAt w' vt vr bm vl t R ps :=
  ⟨kept_tab.below h.tab hb, kept_tab.below h.reps hb, h.map.below hb, let ⟨base, hl⟩ := h.list; ⟨base, owns_below hl hb⟩⟩
def zero95 : Array Value := #[.slice none 0 0, .slice none 0 0, .map none, .slice none 0 0]
section
variable {o : Oper} {a : Act} {w w' : World} {n : Nat} {v : Value}
theorem r_move (x : Operand) (ho : o.op = .move x) (hx : a.eval x = v) : (execOp a.eval o).run Try.prog w = .ok (.value v) w := by
  unfold execOp
  simp only [ho, hx]
  rfl
end
theorem reps50_any (w : World) (v : Value) (g : Int) (t : Tb) (ht : Tab w v t) : Calls Try.prog 50 #[.int .i64 g, v] w (RepsPost g t w) := by
  by_cases h : (check g t).1 = 0
  · obtain ⟨h0, h1, -⟩ := check_good h
    have e : g = ((g.toNat : Nat) : Int) := by omega
    rw [e]
    exact reps50_good w v g.toNat t ht h1
  · exact reps50_bad w v g t ht h
end Go.Proofs
namespace Go.Proofs
open Go.RowKit Go.Shelf Go.Proofs.Ct Go.Maps
/-- the system in the making: box, map, list -/
structure OfSt (w1 wr : World) (vt u vl : Value) (ps : List (Nat × Nat)) : Prop where
  below : Below w1.heap.size w1 wr
  box : wr.heap[w1.heap.size + 1]? = some (.cells #[vt, u, .map (some w1.heap.size), vl] 95 (0, 0))
  map : MapP wr w1.heap.size ps
  list : OwnP (w1.heap.size + 2) wr vl ps
theorem OfSt.below' {w1 wr w' : World} {vt u vl : Value} {ps : List (Nat × Nat)} (h : OfSt w1 wr vt u vl ps) (hb : Below wr.heap.size wr w') : OfSt w1 w' vt u vl ps :=
  ⟨h.below.trans (hb.mono h.below.size), (hb.block _ (Array.getElem?_eq_some_iff.1 h.box).1).trans h.box, h.map.below hb, owns_below h.list hb⟩
theorem OfSt.add {w1 wr : World} {vt u vl : Value} {ps : List (Nat × Nat)} (h : OfSt w1 wr vt u vl ps) {k j : Nat} (hs : Sml k j) (hn : (k, j) ∉ ps) (hl : ps.length ≤ 400000) :
    ∃ A' c' w5 w6, (Builtin.append_ #[91, 91] 91 #[vl, .slice (some ⟨wr.heap.size, 0, none⟩) 1 1]).run Try.prog (wr.alloc (.cells #[.int .i64 (k : Int), .int .i64 ((j : Int) + 1)] 102)) = .ok (.slice A' (ps.length + 1) c') w5 ∧
      w5.cell? ⟨w1.heap.size + 1, 2, none⟩ = some (.map (some w1.heap.size)) ∧ w5.cell? ⟨w1.heap.size + 1, 3, none⟩ = some vl ∧ w5.frozen? ⟨w1.heap.size + 1, 3, none⟩ = false ∧
      (Instr.mapUpdate 90 (.map (some w1.heap.size)) (.agg #[.int .i64 (k : Int), .int .i64 ((j : Int) + 1)]) (.int .i64 ((ps.length : Int) + 1))).run Try.prog (w5.setCell ⟨w1.heap.size + 1, 3, none⟩ (.slice A' (ps.length + 1) c')) = .ok () w6 ∧
      OfSt w1 w6 vt u (.slice A' (ps.length + 1) c') (ps ++ [(k, j)]) := by
  have h1 := h.below.size
  have hbs : w1.heap.size + 1 < wr.heap.size := (Array.getElem?_eq_some_iff.1 h.box).1
  obtain ⟨A', c', w5, hr, ho, hg⟩ := push_pair wr (w1.heap.size + 2) vl ps h.list (k, j) (by omega) (by omega)
  have hvb := owns_block2 h.list
  have hne : ∀ r, r < w1.heap.size + 2 → vl.ownBlock ≠ some r := fun r hr e => by have := (hvb r e).1; omega
  have hbox5 : w5.heap[w1.heap.size + 1]? = some (.cells #[vt, u, .map (some w1.heap.size), vl] 95 (0, 0)) := grown_cells hg h.box (hne _ (by omega))
  have hmap5 : MapP w5 w1.heap.size ps := h.map.kept hg (hne _ (by omega))
  have hbel5 : Below w1.heap.size w1 w5 := h.below.grown hg h1 (fun k hk => by have := (hvb k hk).1; omega)
  have hg6 := grown_setCell w5 (w1.heap.size + 1) 3 (.slice A' (ps.length + 1) c')
  have hmap6 : MapP (w5.setCell ⟨w1.heap.size + 1, 3, none⟩ (.slice A' (ps.length + 1) c')) w1.heap.size ps := hmap5.kept hg6 (fun e => by have := Option.some.inj e; omega)
  have hbox6 : (w5.setCell ⟨w1.heap.size + 1, 3, none⟩ (.slice A' (ps.length + 1) c')).heap[w1.heap.size + 1]? = some (.cells #[vt, u, .map (some w1.heap.size), .slice A' (ps.length + 1) c'] 95 (0, 0)) := by
    simp [World.setCell, Array.getElem?_modify, hbox5]
  have hlist6 : OwnP (w1.heap.size + 2) (w5.setCell ⟨w1.heap.size + 1, 3, none⟩ (.slice A' (ps.length + 1) c')) (.slice A' (ps.length + 1) c') (ps ++ [(k, j)]) := owns_keep ho fun r hr' => by
    obtain ⟨h2, C, hC⟩ := owns_block2 ho r hr'
    exact hg6.block r (Array.getElem?_eq_some_iff.1 hC).1 (fun e => by have := Option.some.inj e; omega)
  have hbel6 : Below w1.heap.size w1 (w5.setCell ⟨w1.heap.size + 1, 3, none⟩ (.slice A' (ps.length + 1) c')) := hbel5.grown hg6 hbel5.size (fun k hk => by have := Option.some.inj hk; omega)
  obtain ⟨w6, hrm, hm7, hg7⟩ := hmap6.put hs (by omega) hn
  have hne7 : ∀ {k : Nat} {C : Array Value} {e : TypeId} {fr : Nat × Nat}, (w5.setCell ⟨w1.heap.size + 1, 3, none⟩ (.slice A' (ps.length + 1) c')).heap[k]? = some (.cells C e fr) → (some w1.heap.size : Option Nat) ≠ some k := fun {k C e fr} hc e' => by
    obtain ⟨es, cl, hmo⟩ := hmap6.isMapObj
    have : w1.heap.size = k := Option.some.inj e'
    subst this
    rw [hmo] at hc; cases hc
  refine ⟨A', c', w5, w6, hr, ?_, ?_, ?_, hrm, hbel6.grown hg7 hbel6.size (fun k hk => by cases hk; exact Nat.le_refl _), grown_cells hg7 hbox6 (hne7 hbox6), hm7, owns_keep hlist6 fun r hr' => ?_⟩
  · rw [cell_of_row _ _ _ _ _ _ hbox5]; rfl
  · rw [cell_of_row _ _ _ _ _ _ hbox5]; rfl
  · simp [World.frozen?, hbox5]
  · obtain ⟨-, C, hC⟩ := owns_block2 hlist6 r hr'
    exact (grown_cells hg7 hC (hne7 hC)).trans hC.symm
theorem OfSt.first (w1 : World) (vt u : Value) : OfSt w1 (((w1.alloc (.map #[] 0)).alloc (.cells zero95 95)).setRow (w1.heap.size + 1) #[vt, u, .map (some w1.heap.size), .slice none 0 0]) vt u (.slice none 0 0) [] := by
  have hb1 : Below w1.heap.size w1 (w1.alloc (.map #[] 0)) := (Below.refl _ _).alloc (Nat.le_refl _) _
  have hm1 := MapP.made w1
  have hb2 : Below (w1.heap.size + 1) (w1.alloc (.map #[] 0)) ((w1.alloc (.map #[] 0)).alloc (.cells zero95 95)) := (Below.refl _ _).alloc (by simp) _
  have hnew := heap_alloc_new (w1.alloc (.map #[] 0)) (.cells zero95 95)
  rw [World.size_alloc] at hnew
  have hb3 : Below (w1.heap.size + 1) ((w1.alloc (.map #[] 0)).alloc (.cells zero95 95)) (((w1.alloc (.map #[] 0)).alloc (.cells zero95 95)).setRow (w1.heap.size + 1) #[vt, u, .map (some w1.heap.size), .slice none 0 0]) :=
    ⟨rfl, rfl, rfl, by rw [World.setRow]; simp, fun k hk => setRow_other _ _ k _ (by omega)⟩
  refine ⟨(hb1.trans (hb2.mono (Nat.le_succ _))).trans (hb3.mono (Nat.le_succ _)), setRow_heap _ _ _ _ _ _ hnew, ?_, World.ownsRow_nil _ _ _ _⟩
  exact (hm1.below (hb2.mono (by simp))).kept (row := some (w1.heap.size + 1)) ⟨hb3.os, hb3.tape, hb3.output, hb3.size, fun k hk hne => setRow_other _ _ k _ (fun e => hne (by rw [e]))⟩ (fun e => by have := Option.some.inj e; omega)
end Go.Proofs
namespace Go.Proofs
open Go.RowKit Go.Shelf Go.Proofs.Ct Go.Maps
theorem OwnP.form {base : Nat} {w : World} {v : Value} {ps : List (Nat × Nat)} (h : OwnP base w v ps) : ∃ A c, v = .slice A ps.length c := owns_form2 h
theorem Tab.form {w : World} {v : Value} {xs : List (List Int)} (h : Tab w v xs) : ∃ A c, v = .slice A xs.length c := let ⟨A, c, e, _⟩ := h.open_; ⟨A, c, e⟩
theorem below_boxed {w w1 : World} (hb : Below w.heap.size w w1) (o : Obj) (cs : Array Value) : Below w.heap.size w ((w1.alloc o).setRow w1.heap.size cs) := by
  have h1 := hb.size
  have h2 : Below w.heap.size w (w1.alloc o) := hb.alloc h1 _
  exact h2.trans ⟨rfl, rfl, rfl, by rw [World.setRow]; simp, fun k hk => setRow_other _ _ k _ (by omega)⟩
end Go.Proofs
namespace Go.Proofs
open Go.RowKit Go.Shelf Go.Proofs.Ct Go.Maps
section
variable {ops : Array Oper} {o : Oper} {a : Act} {w w' : World} {K : Act → World → Prop} {Q : Exit → Act → World → Prop} {E : Prop} {v : Value}
end
theorem OutSt2.done' {t e : TypeId} (he : e ≠ 3) (ht : Try.prog.underlying t = some (.slice e)) (hi : ∃ i, Try.prog.info? e = some i ∧ i.zero = some (.slice none 0 0) ∧ i.size = 1 ∧ i.bytes = 24) {F : Nat → Prop} {w0 wr : World} {vout : Value} {A : Option Addr} {n c : Nat} {rows : List (List Int)} {x : List Int} (h : OutSt2 e F w0 wr vout (.slice A n c) rows x) (hf : Fits x) (hl : rows.length ≤ 1000000) :
    ∃ A' c' w', (Builtin.append_ #[t, t] t #[vout, .slice (some ⟨wr.heap.size, 0, none⟩) 1 1]).run Try.prog (wr.alloc (.cells #[.slice A n c] e)) = .ok (.slice A' (rows.length + 1) c') w' ∧
      OutSt e (fun k => F k ∨ (Value.slice A n c).ownBlock = some k) w0 w' (.slice A' (rows.length + 1) c') (rows ++ [x]) ∧ wr.grownBy w' vout.ownBlock := by
  have hub := h.st.out.block
  have hrb := owns_block h.row
  have hne : ∀ {k : Nat} {C : Array Value} {fr : Nat × Nat}, wr.heap[k]? = some (.cells C 3 fr) → vout.ownBlock ≠ some k := fun {k C fr} hc e' => by
    obtain ⟨-, C', hC'⟩ := hub k e'
    rw [hc] at hC'
    injection hC' with h5
    injection h5 with _ h6 _
    exact he h6.symm
  have hF2 : ∀ k, (F k ∨ (Value.slice A n c).ownBlock = some k) → k < wr.heap.size ∧ vout.ownBlock ≠ some k := fun k hk => by
    rcases hk with hk | hk
    · obtain ⟨h1, h2, C, hC⟩ := h.st.fs k hk
      exact ⟨h2, hne hC⟩
    · obtain ⟨h1, C, hC⟩ := hrb k hk
      exact ⟨(Array.getElem?_eq_some_iff.1 hC).1, hne hC⟩
  obtain ⟨A', c', w', hr, ho', hg, hw⟩ := push_row (ty := t) ht hi wr w0.heap.size (fun k => F k ∨ (Value.slice A n c).ownBlock = some k) vout rows (h.st.out.keep (fun _ _ => rfl) (Ag.refl _ _) (fun k hk => .inl hk)) A n c x ((IntsF.of_own h.row hf).mono fun k hk => .inr hk) hF2 (by omega) h.st.below.size
  refine ⟨A', c', w', hr, ⟨h.st.below.grown hg h.st.below.size (fun k hk => (hub k hk).1), ho', fun k hk => ?_⟩, hg⟩
  have h2 := (hF2 k hk).1
  rcases hk with hk | hk
  · obtain ⟨h1, _, C, hC⟩ := h.st.fs k hk
    exact ⟨h1, Nat.lt_of_lt_of_le h2 hg.size, C, grown_cells hg hC (hne hC)⟩
  · obtain ⟨h1, C, hC⟩ := hrb k hk
    exact ⟨h1, Nat.lt_of_lt_of_le h2 hg.size, C, grown_cells hg hC (hne hC)⟩
end Go.Proofs
namespace Go.Proofs
open Go.RowKit Go.Shelf Go.Proofs.Ct Go.Maps
theorem wide_fn (f : FuncId) : Fence.wide.fn f := trivial
theorem wide_depth : Fence.wide.depth = none := rfl
attribute [local simp, local go_sem] wide_fn wide_depth
attribute [local go_sem] Oper.semAt_some
/-- what the walk's body leaves alone -/
def Kb (S : Nat → Prop) (A B : World) : Prop := B.os = A.os ∧ B.tape = A.tape ∧ B.output = A.output ∧ A.heap.size ≤ B.heap.size ∧ Ag S A B
/-- the iterator's own variables -/
structure WkSt (w0 wr : World) (bw br bt : Nat) (vw vt vr : Value) (r : Nat) : Prop where
  below : Below w0.heap.size w0 wr
  cw : wr.heap[bw]? = some (.cells #[vw] 25 (0, 0))
  ct : wr.heap[bt]? = some (.cells #[vt, vr] 89 (0, 0))
  cr : wr.heap[br]? = some (.cells #[.int .i64 (r : Int)] 3 (0, 0))
theorem WkSt.below' {w0 A B : World} {bw br bt : Nat} {vw vt vr : Value} {r : Nat} (h : WkSt w0 A bw br bt vw vt vr r) (hb : Below A.heap.size A B) : WkSt w0 B bw br bt vw vt vr r :=
  ⟨h.below.trans (hb.mono h.below.size), (hb.block _ (Array.getElem?_eq_some_iff.1 h.cw).1).trans h.cw, (hb.block _ (Array.getElem?_eq_some_iff.1 h.ct).1).trans h.ct, (hb.block _ (Array.getElem?_eq_some_iff.1 h.cr).1).trans h.cr⟩
theorem WkSt.set {w0 A : World} {bw br bt : Nat} {vw vt vr : Value} {r r' : Nat} (h : WkSt w0 A bw br bt vw vt vr r) (h0 : w0.heap.size ≤ br) : WkSt w0 (A.setCell ⟨br, 0, none⟩ (.int .i64 (r' : Int))) bw br bt vw vt vr r' := by
  have hne : ∀ k, k ≠ br → (A.setCell ⟨br, 0, none⟩ (.int .i64 (r' : Int))).heap[k]? = A.heap[k]? := fun k hk => Below.heap_setCell A ⟨br, 0, none⟩ _ k hk
  have h1 : bw ≠ br := fun e => by have := h.cw; rw [e, h.cr] at this; cases this
  have h2 : bt ≠ br := fun e => by have := h.ct; rw [e, h.cr] at this; cases this
  refine ⟨h.below.trans ⟨rfl, rfl, rfl, by simp [World.setCell], fun k hk => hne k (by omega)⟩, (hne _ h1).trans h.cw, (hne _ h2).trans h.ct, ?_⟩
  have := h.cr
  simp [World.setCell, Array.getElem?_modify, this]
theorem cell_of1 {w : World} {b : Nat} {v : Value} {e : TypeId} (h : w.heap[b]? = some (.cells #[v] e (0, 0))) : w.cell? ⟨b, 0, none⟩ = some v ∧ w.frozen? ⟨b, 0, none⟩ = false :=
  ⟨by rw [cell_of_row _ _ _ _ _ _ h]; rfl, by simp [World.frozen?, h]⟩
theorem cell_of2 {w : World} {b : Nat} {v u : Value} {e : TypeId} (h : w.heap[b]? = some (.cells #[v, u] e (0, 0))) : w.cell? ⟨b, 0, none⟩ = some v ∧ w.cell? ⟨b, 1, none⟩ = some u :=
  ⟨by rw [cell_of_row _ _ _ _ _ _ h]; rfl, by rw [cell_of_row _ _ _ _ _ _ h]; rfl⟩
/-- the letters are those of generators -/
def LetsOk (g : Nat) (w : List Int) : Prop := ∀ x ∈ w, -(g : Int) ≤ x ∧ x ≤ g ∧ x ≠ 0
theorem LetsOk.at_ {g : Nat} {w : List Int} (h : LetsOk g w) {k : Nat} (hk : k < w.length) : -(g : Int) ≤ w.getD k 0 ∧ w.getD k 0 ≤ g ∧ w.getD k 0 ≠ 0 := by
  rw [List.getD_eq_getElem?_getD, List.getElem?_eq_getElem hk]
  exact h _ (List.getElem_mem hk)
end Go.Proofs
namespace Go.Proofs
open Go.RowKit Go.Shelf Go.Proofs.Ct Go.Maps
/-- what a body does to a world: it writes its own box bo and blocks of cells from B on -/
structure Turned (bo B : Nat) (W W' : World) : Prop where
  os : W'.os = W.os
  tape : W'.tape = W.tape
  output : W'.output = W.output
  size : W.heap.size ≤ W'.heap.size
  block : ∀ k, k < W.heap.size → k ≠ bo → (k < B ∨ ∃ o : Obj, W.heap[k]? = some o ∧ o.isCells = false) → W'.heap[k]? = W.heap[k]?
theorem Turned.refl (bo B : Nat) (W : World) : Turned bo B W W := ⟨rfl, rfl, rfl, Nat.le_refl _, fun _ _ _ _ => rfl⟩
theorem Turned.trans {bo B : Nat} {W X Y : World} (h : Turned bo B W X) (k : Turned bo B X Y) : Turned bo B W Y :=
  ⟨k.os.trans h.os, k.tape.trans h.tape, k.output.trans h.output, Nat.le_trans h.size k.size, fun i hi hb hc =>
    (k.block i (Nat.lt_of_lt_of_le hi h.size) hb (hc.imp id fun ⟨o, ho, hn⟩ => ⟨o, (h.block i hi hb hc).trans ho, hn⟩)).trans (h.block i hi hb hc)⟩
theorem Turned.of_below {bo B : Nat} {W X : World} (h : Below W.heap.size W X) : Turned bo B W X := ⟨h.os, h.tape, h.output, h.size, fun i hi _ _ => h.block i hi⟩
theorem Turned.set {bo B : Nat} {W : World} (v : Value) : Turned bo B W (W.setCell ⟨bo, 0, none⟩ v) := ⟨rfl, rfl, rfl, by simp [World.setCell], fun i _ hb _ => Below.heap_setCell W ⟨bo, 0, none⟩ v i hb⟩
theorem Turned.grown {bo B : Nat} {W X : World} {row : Option Nat} (h : W.grownBy X row) (hr : ∀ r, row = some r → B ≤ r ∧ ∃ o : Obj, W.heap[r]? = some o ∧ o.isCells = true) : Turned bo B W X :=
  ⟨h.os, h.tape, h.output, h.size, fun i hi _ hc => h.block i hi fun e => by
    obtain ⟨h1, o, h2, h3⟩ := hr i e.symm
    rcases hc with hc | ⟨o', h4, h5⟩
    · omega
    · rw [h2] at h4; cases h4; rw [h3] at h5; cases h5⟩
theorem Kb.trans {S : Nat → Prop} {A B C : World} (h : Kb S A B) (k : Kb S B C) : Kb S A C :=
  ⟨k.1.trans h.1, k.2.1.trans h.2.1, k.2.2.1.trans h.2.2.1, Nat.le_trans h.2.2.2.1 k.2.2.2.1, h.2.2.2.2.trans k.2.2.2.2⟩
theorem Kb.put {S : Nat → Prop} {W : World} {l : Nat} {o : Obj} (hS : ∀ k, S k → k ≠ l) : Kb S W (W.putObj l o) :=
  ⟨rfl, rfl, rfl, by simp, fun k hk => World.putObj_heap_other (hS k hk)⟩
end Go.Proofs
namespace Go.Proofs
section
variable {F : Fence} {n : Nat} {P : Program} {ops : Array Oper} {Q : Exit → Act → World → Prop} {md : Region.Mode}
theorem count_set : ∀ (l : List Bool) (i : Nat), l[i]? = some false → (l.set i true).count false + 1 = l.count false
  | [], i, h => by simp at h
  | b :: l, 0, h => by
    simp at h
    subst h
    simp
  | b :: l, i + 1, h => by
    have ih := count_set l i (by simpa using h)
    simp only [List.set_cons_succ, List.count_cons]
    omega
theorem ready_mem {listed : Array Bool} {i : Nat} (h : i ∈ Region.ready md ops listed) : i < ops.size ∧ listed.getD i true = false ∧
    ∃ o, ops[i]? = some o ∧ ∀ e ∈ o.after.toList, Region.binds md e = true → listed.getD e.on false = true := by
  simp only [Region.ready, List.mem_filter, List.mem_range, Bool.and_eq_true, Bool.not_eq_true'] at h
  obtain ⟨h1, h2, h3⟩ := h
  refine ⟨h1, h2, ops[i], Array.getElem?_eq_getElem h1, fun e he hb => ?_⟩
  rw [Array.getElem?_eq_getElem h1] at h3
  simp only [Option.map_some, Option.getD_some] at h3
  rw [Array.all_eq_true_iff_forall_mem] at h3
  have := h3 e (by simpa using he)
  simpa [hb] using this
theorem wpAnyIn_inv (I : Array Bool → Act → World → Prop)
    (hstep : ∀ listed a w i, listed.size = ops.size → I listed a w → i ∈ Region.ready md ops listed → wpOpIn F n P ops Q i (I (listed.setIfInBounds i true)) a w)
    (hend : ∀ listed a w, listed.size = ops.size → I listed a w → Region.ready md ops listed = [] → Q .normal a w) :
    ∀ (fuel : Nat) (listed : Array Bool) (a : Act) (w : World), listed.size = ops.size → listed.toList.count false ≤ fuel → I listed a w → wpAnyIn F n P md ops Q fuel listed a w := by
  intro fuel
  induction fuel with
  | zero =>
    intro listed a w hs hc hI
    have hr : Region.ready md ops listed = [] := by
      rw [List.eq_nil_iff_forall_not_mem]
      intro i hi
      obtain ⟨h1, h2, _⟩ := ready_mem hi
      have hlt : i < listed.size := by omega
      have hf : listed[i] = false := by simpa [Array.getD, hlt] using h2
      have : false ∈ listed.toList := by rw [← hf]; simp
      have := List.count_pos_iff.2 this
      omega
    exact ⟨hr, hend _ _ _ hs hI hr⟩
  | succ fuel ih =>
    intro listed a w hs hc hI
    refine ⟨hend _ _ _ hs hI, fun i hi => ?_⟩
    obtain ⟨h1, h2, _⟩ := ready_mem hi
    have hlt : i < listed.size := by omega
    have hf : listed.toList[i]? = some false := by
      have : listed[i] = false := by simpa [Array.getD, hlt] using h2
      simp [hlt, this]
    have hcs := count_set listed.toList i hf
    refine wpOpIn_mono (fun a' w' h' => ih _ a' w' (by simpa using hs) ?_ h') (hstep listed a w i hs hI hi)
    rw [Array.toList_setIfInBounds]
    omega
/-- The frame but for the slots lo, lo+1, .., lo+N-1. -/
structure Same (a0 : Act) (lo N : Nat) (a : Act) : Prop where
  size : a.tmps.size = a0.tmps.size
  defers : a.defers = a0.defers
  out : ∀ t, t < lo ∨ lo + N ≤ t → a.tmps.getD t undef = a0.tmps.getD t undef
theorem Same.refl (a0 : Act) (lo N : Nat) : Same a0 lo N a0 := ⟨rfl, rfl, fun _ _ => rfl⟩
theorem Same.put {a0 a : Act} {lo N i : Nat} (h : Same a0 lo N a) (hi : i < N) (v : Value) : Same a0 lo N (a.put (some (lo + i)) v) :=
  ⟨by simpa [Act.put] using h.size, h.defers, fun t ht => by
    rw [← h.out t ht]
    have hne : lo + i ≠ t := by omega
    simp only [Act.put, Array.getD_eq_getD_getElem?]
    rw [Array.getElem?_setIfInBounds_ne hne]⟩
theorem put_getD_same (a : Act) (t : Nat) (v : Value) (h : t < a.tmps.size) : (a.put (some t) v).tmps.getD t undef = v := by
  simp [Act.put, Array.getD_eq_getD_getElem?, h]
theorem put_getD_ne (a : Act) (t u : Nat) (v : Value) (h : t ≠ u) : (a.put (some t) v).tmps.getD u undef = a.tmps.getD u undef := by
  simp only [Act.put, Array.getD_eq_getD_getElem?]
  rw [Array.getElem?_setIfInBounds_ne h]
/-- Every edge leads back; each of the first N operations has a successor up to N; operation N+1 waits for N. -/
structure Tailed (ops : Array Oper) (N : Nat) : Prop where
  size : ops.size = N + 2
  lex : ∀ (i : Nat) (o : Oper), ops[i]? = some o → ∀ e ∈ o.after.toList, e.on < i
  succ : ∀ i, i < N → ∃ (j : Nat) (o : Oper), i < j ∧ j ≤ N ∧ ops[j]? = some o ∧ ∃ e ∈ o.after.toList, e.on = i ∧ Region.binds .any e = true
  last : ∃ o : Oper, ops[N + 1]? = some o ∧ ∃ e ∈ o.after.toList, e.on = N ∧ Region.binds .any e = true
/-- listed is closed downwards -/
def Closed (ops : Array Oper) (listed : Array Bool) : Prop := ∀ (i : Nat) (o : Oper), ops[i]? = some o → listed.getD i false = true → ∀ e ∈ o.after.toList, Region.binds .any e = true → listed.getD e.on false = true
theorem getD_set_listed {listed : Array Bool} {i j : Nat} (hi : i < listed.size) : (listed.setIfInBounds i true).getD j false = if i = j then true else listed.getD j false := by
  simp only [Array.getD_eq_getD_getElem?]
  by_cases e : i = j
  · subst e; simp [hi]
  · rw [Array.getElem?_setIfInBounds_ne e, if_neg e]
theorem getD_true_false {listed : Array Bool} {i : Nat} (hi : i < listed.size) : listed.getD i true = listed.getD i false := by
  simp [Array.getD, hi]
section
variable {F : Fence} {n : Nat} {P : Program} {ops : Array Oper} {Q : Exit → Act → World → Prop}
theorem Tailed.before {N : Nat} (ht : Tailed ops N) {listed : Array Bool} (hc : Closed ops listed) {o : Oper} (ho : ops[N]? = some o) (hp : ∀ e ∈ o.after.toList, Region.binds .any e = true → listed.getD e.on false = true) :
    ∀ k i, i < N → N - i ≤ k → listed.getD i false = true := by
  intro k
  induction k with
  | zero => intro i hi hk; omega
  | succ k ih =>
    intro i hi hk
    obtain ⟨j, oj, hij, hjN, hoj, e, he, rfl, hb⟩ := ht.succ i hi
    rcases Nat.lt_or_ge j N with h | h
    · exact hc j oj hoj (ih j h (by omega)) e he hb
    · have : j = N := by omega
      subst this
      rw [ho] at hoj
      cases hoj
      exact hp e he hb
end
end
/-- The frame behind a region, written out. -/
theorem Same.frame {a0 a : Act} {lo N : Nat} (h : Same a0 lo N a) (hsz : lo + N ≤ a0.tmps.size) :
    a = { tmps := (a0.tmps.toList.take lo ++ (List.range N).map (fun i => a.tmps.getD (lo + i) undef) ++ a0.tmps.toList.drop (lo + N)).toArray, defers := a0.defers } := by
  obtain ⟨t, d⟩ := a
  have hd := h.defers
  have hs := h.size
  simp only at hd hs
  subst hd
  congr 1
  apply Array.ext'
  apply List.ext_getElem?
  intro k
  have hg : ∀ j, j < t.size → t.toList[j]? = some (t.getD j undef) := fun j hj => by simp [Array.getD, hj]
  have hg0 : ∀ j, j < a0.tmps.size → a0.tmps.toList[j]? = some (a0.tmps.getD j undef) := fun j hj => by simp [Array.getD, hj]
  rcases Nat.lt_or_ge k t.size with hk | hk
  · rw [hg k hk]
    rcases Nat.lt_or_ge k lo with h1 | h1
    · rw [List.getElem?_append_left (by simp; omega), List.getElem?_append_left (by simp; omega), List.getElem?_take, if_pos h1, hg0 k (by omega), h.out k (.inl h1)]
    · rcases Nat.lt_or_ge k (lo + N) with h2 | h2
      · rw [List.getElem?_append_left (by simp; omega), List.getElem?_append_right (by simp; omega)]
        have e : min lo a0.tmps.size = lo := by omega
        simp [e, List.getElem?_map, List.getElem?_range (show k - lo < N by omega), show lo + (k - lo) = k by omega]
      · rw [List.getElem?_append_right (by simp; omega)]
        have e : min lo a0.tmps.size = lo := by omega
        simp only [List.length_append, List.length_take, List.length_map, List.length_range, Array.length_toList, e, List.getElem?_drop]
        rw [show lo + N + (k - (lo + N)) = k by omega, hg0 k (by omega), h.out k (.inr h2)]
  · rw [List.getElem?_eq_none (by simpa using hk), List.getElem?_eq_none (by simp; omega)]
section
variable {o : Oper} {a : Act} {w w' : World} {n l : Nat} {next : Act → World → Prop} {Q : Exit → Act → World → Prop} {v : Value}
theorem r_fld {T i : Nat} (x : Operand) (ad : Value) (ho : o.op = .fieldAddr T x i) (hx : a.eval x = ad) (hf : (Instr.fieldAt T ad i).run Try.prog w = .ok v w) : (execOp a.eval o).run Try.prog w = .ok (.value v) w := by
  unfold execOp; simp only [ho, hx, Sem.run_bind, hf, Result.andThen_ok]; rfl
theorem r_call2 {f : FuncId} (x y : Operand) (u v : Value) (T : Array TypeId) (ho : o.op = .call { callee := .value (.func f), args := #[x, y], argTypes := T }) (hx : a.eval x = u) (hy : a.eval y = v)
    (he : ∀ args w, (callFunc f args).run Try.prog w = .ok (.enter f args) w) : (execOp a.eval o).run Try.prog w = .ok (.enter f #[u, v]) w := by
  have hf : a.eval (.func f) = .func (.func f) #[] #[] := rfl
  unfold execOp
  simp only [ho, resolve, List.map_toArray, List.map_cons, List.map_nil, hx, hy, hf]
  simp [go_sem, he]
theorem r_loadAt (T : TypeId) (x : Operand) (p u : Value) (ho : o.op = .load T x) (hx : a.eval x = p) (hr : (Instr.loadAt T p).run Try.prog w = .ok u w) : (execOp a.eval o).run Try.prog w = .ok (.value u) w := by
  unfold execOp
  simp only [ho, hx, Sem.run_bind, hr, Result.andThen_ok]
  rfl
end
end Go.Proofs
namespace Go.Proofs
open Go.RowKit Go.Shelf Go.Proofs.Ct Go.Maps
attribute [local simp, local go_sem] wide_fn wide_depth
attribute [local go_sem] Oper.semAt_some
section
variable {o : Oper} {a : Act} {w w' : World} {n : Nat} {Q : Exit → Act → World → Prop} {v : Value}
end
theorem wpOpIn_of {F : Fence} {n : Nat} {P : Program} {ops : Array Oper} {Q : Exit → Act → World → Prop} {i : Nat} {o : Oper} {K : Act → World → Prop} {a : Act} {w : World} (ho : ops[i]? = some o) (hg : o.guard = none) (h : o.wpIn F n P a w K Q) : wpOpIn F n P ops Q i K a w := by
  unfold wpOpIn
  rw [ho]
  simp only [Region.wanted, hg, if_true]
  exact h
theorem r_assign {o : Oper} {a : Act} {w : World} {v : Value} (x : Operand) (ho : o.op = .assign x) (hx : a.eval x = v) : (execOp a.eval o).run Try.prog w = .ok (.value v) w := by
  unfold execOp; simp only [ho, hx]; rfl
/-- the rewriting under way: its system's box, the list it writes -/
structure RwSt (w : World) (cs : Array Value) (B : Nat) (X : List Int) (W : World) : Prop where
  below : Below w.heap.size w W
  box : W.heap[w.heap.size]? = some (.cells cs 95 (0, 0))
  out : ∃ A c, W.heap[w.heap.size + 1]? = some (.cells #[.slice A X.length c] 25 (0, 0)) ∧ OwnI B W (.slice A X.length c) X
theorem RwSt.below' {w W W' : World} {cs : Array Value} {B : Nat} {X : List Int} (h : RwSt w cs B X W) (hb : Below W.heap.size W W') : RwSt w cs B X W' :=
  ⟨h.below.trans (hb.mono h.below.size), (hb.block _ (Array.getElem?_eq_some_iff.1 h.box).1).trans h.box, let ⟨A, c, h1, h2⟩ := h.out; ⟨A, c, (hb.block _ (Array.getElem?_eq_some_iff.1 h1).1).trans h1, owns_below h2 hb⟩⟩
theorem RwSt.other {w W W' : World} {cs : Array Value} {B : Nat} {X : List Int} (h : RwSt w cs B X W) (l : Nat) (h1 : w.heap.size + 1 < l) (he : W'.os = W.os ∧ W'.tape = W.tape ∧ W'.output = W.output ∧ W.heap.size ≤ W'.heap.size)
    (hk : ∀ k, k ≠ l → W'.heap[k]? = W.heap[k]?) (hl : l < B ∨ ∃ o : Obj, W.heap[l]? = some o ∧ o.isCells = false) : RwSt w cs B X W' := by
  refine ⟨h.below.trans ⟨he.1, he.2.1, he.2.2.1, he.2.2.2, fun k hk' => hk k (by omega)⟩, (hk _ (by omega)).trans h.box, ?_⟩
  obtain ⟨A, c, h2, h3⟩ := h.out
  refine ⟨A, c, (hk _ (by omega)).trans h2, owns_keep h3 fun r hr => hk r fun e => ?_⟩
  obtain ⟨h4, C, h5⟩ := owns_block h3 r hr
  rcases hl with hl | ⟨o, h6, h7⟩
  · omega
  · rw [e, h6] at h5; cases h5; cases h7
theorem RwSt.push {w W : World} {cs : Array Value} {B : Nat} {X : List Int} (h : RwSt w cs B X W) (hB : w.heap.size + 2 ≤ B) (hBW : B ≤ W.heap.size) (hX : X.length ≤ 1000000) (z : Int) : ∃ A c A' c' W', W.cell? ⟨w.heap.size + 1, 0, none⟩ = some (.slice A X.length c) ∧
    (Builtin.append_ #[25, 25] 25 #[.slice A X.length c, .slice (some ⟨W.heap.size, 0, none⟩) 1 1]).run Try.prog (W.alloc (.cells #[.int .i64 z] 3)) = .ok (.slice A' (X.length + 1) c') W' ∧
    (W'.cell? ⟨w.heap.size + 1, 0, none⟩ = some (.slice A X.length c) ∧ W'.frozen? ⟨w.heap.size + 1, 0, none⟩ = false) ∧
    Turned (w.heap.size + 1) B W (W'.setCell ⟨w.heap.size + 1, 0, none⟩ (.slice A' (X.length + 1) c')) ∧ RwSt w cs B (X ++ [z]) (W'.setCell ⟨w.heap.size + 1, 0, none⟩ (.slice A' (X.length + 1) c')) := by
  obtain ⟨A, c, h1, h2⟩ := h.out
  obtain ⟨A', c', W', hr, ho, hg, hw⟩ := push_int 25 25 Try.underlying25 W B _ X h2 z (by omega) hBW
  have hrow : ∀ r, (Value.slice A X.length c).ownBlock = some r → B ≤ r ∧ ∃ o : Obj, W.heap[r]? = some o ∧ o.isCells = true := fun r hr => by
    obtain ⟨h4, C, h5⟩ := owns_block h2 r hr
    exact ⟨h4, _, h5, rfl⟩
  have hne : ∀ k, k < W.heap.size → k < B → W'.heap[k]? = W.heap[k]? := fun k hk hkB => hg.block k hk fun e => by have := (hrow k e.symm).1; omega
  have hwl := h.below.size
  have h1lt := (Array.getElem?_eq_some_iff.1 h1).1
  have h1' := (hne _ h1lt (by omega)).trans h1
  have hset : ∀ k, k ≠ w.heap.size + 1 → (W'.setCell ⟨w.heap.size + 1, 0, none⟩ (.slice A' (X.length + 1) c')).heap[k]? = W'.heap[k]? := fun k hk => Below.heap_setCell W' ⟨w.heap.size + 1, 0, none⟩ _ k hk
  refine ⟨A, c, A', c', W', (cell_of1 h1).1, hr, cell_of1 h1', (Turned.grown hg hrow).trans (Turned.set _), ?_, ?_, A', c', ?_, ?_⟩
  · have hsz := hg.size
    exact h.below.trans ⟨hg.os, hg.tape, hg.output, by simpa [World.setCell] using hsz, fun k hk => (hset k (by omega)).trans (hne k (by omega) (by omega))⟩
  · exact (hset _ (by omega)).trans ((hne _ (by omega) (by omega)).trans h.box)
  · simp [World.setCell, Array.getElem?_modify, h1']
  · rw [List.length_append]
    refine owns_keep ho fun r hr' => hset r fun e => ?_
    obtain ⟨h4, C, h5⟩ := owns_block ho r hr'
    omega
end Go.Proofs
namespace Go.Proofs
open Go.RowKit Go.Shelf Go.Proofs.Ct Go.Maps
/-- no letter of a table of g generators -/
def letBad (g : Nat) (x : Int) : Bool := decide (x = 0) || decide (x < -(g : Int)) || decide ((g : Int) < x)
theorem letsOk_of {g : Nat} {w : List Int} (h : w.any (letBad g) = false) : LetsOk g w := fun x hx => by
  have := List.any_eq_false.1 h x hx
  unfold letBad at this
  simp at this
  omega
end Go.Proofs
namespace Go.Proofs
open Go.RowKit Go.Shelf Go.Proofs.Ct Go.Maps
/-- the error of the relator k -/
def presBad (g : Nat) (rels : List W) (k : Nat) : Int := if 4000 < sumTo rels (k + 1) then 4 else if (rels.getD k []).any (letBad g) = true then 2 else 0
def presE (g : Int) (rels : List W) : Int :=
  if g < 1 ∨ 16 < g then 2 else if 100 < rels.length then 4 else
  match first (fun k => decide (presBad g.toNat rels k ≠ 0)) rels.length with
  | some k => presBad g.toNat rels k
  | none => 0
theorem presE_some {g : Nat} {rels : List W} (hg : 1 ≤ g ∧ g ≤ 16) (hl : rels.length ≤ 100) {k : Nat} (hk : k < rels.length) (hz : ∀ j, j < k → presBad g rels j = 0) (hb : presBad g rels k ≠ 0) : presE g rels = presBad g rels k := by
  unfold presE
  rw [if_neg (by omega), if_neg (by omega), first_some hk (by simpa using hb) (fun j hj => by simpa using hz j hj)]
  rfl
theorem presE_none {g : Nat} {rels : List W} (hg : 1 ≤ g ∧ g ≤ 16) (hl : rels.length ≤ 100) (hz : ∀ j, j < rels.length → presBad g rels j = 0) : presE g rels = 0 := by
  unfold presE
  rw [if_neg (by omega), if_neg (by omega), first_none (fun j hj => by simpa using hz j hj)]
theorem pred121 (g B : Nat) (vr : Value) (w : World) (hg : g ≤ 16) (hc : w.cell? ⟨B, 0, none⟩ = some (.int .i64 (g : Int))) (_hc1 : w.cell? ⟨B, 1, none⟩ = some vr) :
    PredW 121 #[.pointer (some ⟨B, 0, none⟩)] (fun x => -9223372036854775808 ≤ x ∧ x ≤ 9223372036854775807) (letBad g) w := fun x q hx => by
  have hcq : (w.drewN q).cell? ⟨B, 0, none⟩ = some (.int .i64 (g : Int)) := hc
  show Calls Try.prog 121 #[.int .i64 x, .pointer (some ⟨B, 0, none⟩)] (w.drewN q) _
  have h0 : letBad g x = (decide (x = 0) || decide (x < -(g : Int)) || decide ((g : Int) < x)) := rfl
  have H0 := Lib.hid h0
  clear h0
  generalize hW : w.drewN q = W at *
  have HW := Lib.hid hW
  clear hW
  have hg0 : (0 : Int) ≤ (g : Int) := Int.natCast_nonneg _
  have hg1 : (g : Int) ≤ 16 := by omega
  by_cases h1 : x = 0
  · subst h1
    go_enter Try.func121, Try.ntmps121
    go_wp2_with fail
    go_ret
    exact ⟨ret_bool (by rw [H0.out]; simp), q, HW.out.symm⟩
  · have d1 : (x == 0) = false := by simpa using h1
    by_cases h2 : x < -(g : Int)
    · go_enter Try.func121, Try.ntmps121
      go_wp2_with fail
      go_ret
      exact ⟨ret_bool (by rw [H0.out]; simp [h2]), q, HW.out.symm⟩
    · by_cases h3 : (g : Int) < x
      · go_enter Try.func121, Try.ntmps121
        go_wp2_with fail
        go_ret
        exact ⟨ret_bool (by rw [H0.out]; simp [h3]), q, HW.out.symm⟩
      · go_enter Try.func121, Try.ntmps121
        go_wp2_with fail
        go_ret
        exact ⟨ret_bool (by rw [H0.out]; simp [h1, h2, h3]), q, HW.out.symm⟩
theorem eg121 : ∀ args w, (callFunc 121 args).run Try.prog w = .ok (.enter 121 args) w := enters_of Try.func121 (by kernel_rfl) rfl
end Go.Proofs
namespace Go.Proofs
open Go.RowKit Go.Shelf Go.Proofs.Ct Go.Maps
def PresPost (g : Int) (rels : List W) (w : World) (e : Ending) (w' : World) : Prop := (∃ y, e = .returned (.tuple #[.int .i64 (presE g rels), .int .i64 y])) ∧ Below w.heap.size w w'
theorem presE_range {g : Int} {rels : List W} (h : g < 1 ∨ 16 < g) : presE g rels = 2 := by unfold presE; rw [if_pos h]
theorem presE_many {g : Int} {rels : List W} (h : ¬ (g < 1 ∨ 16 < g)) (h2 : 100 < rels.length) : presE g rels = 4 := by unfold presE; rw [if_neg h, if_pos h2]
theorem sumTo_succ (rels : List W) (k : Nat) : sumTo rels (k + 1) = sumTo rels k + (rels.getD k []).length := rfl
theorem presBad_long {g : Nat} {rels : List W} {k : Nat} (h : 4000 < sumTo rels (k + 1)) : presBad g rels k = 4 := by unfold presBad; rw [if_pos h]
theorem presBad_let {g : Nat} {rels : List W} {k : Nat} (h : ¬ 4000 < sumTo rels (k + 1)) (h2 : (rels.getD k []).any (letBad g) = true) : presBad g rels k = 2 := by unfold presBad; rw [if_neg h, if_pos h2]
theorem presBad_ok {g : Nat} {rels : List W} {k : Nat} (h : ¬ 4000 < sumTo rels (k + 1)) (h2 : (rels.getD k []).any (letBad g) = false) : presBad g rels k = 0 := by unfold presBad; rw [if_neg h, h2]; rfl
set_option maxRecDepth 100000 in
set_option maxHeartbeats 1000000 in
theorem pcheck78_any (w : World) (vr : Value) (g : Int) (rels : List W) (hR : Tab w vr rels) : Calls Try.prog 78 #[.agg #[.int .i64 g, vr]] w (PresPost g rels w) := by
  obtain ⟨Ar, cr, rfl, r1, r2, r3⟩ := hR.open_
  have hbel : Below w.heap.size w (w.alloc (.cells #[.int .i64 g, .slice Ar rels.length cr] 40)) := (Below.refl _ _).alloc (Nat.le_refl _) _
  have HBE := Lib.hid hbel
  have HR := Lib.hid r3
  have hnew := heap_alloc_new w (.cells #[.int .i64 g, .slice Ar rels.length cr] 40)
  have hn0 : (0 : Int) ≤ (rels.length : Int) := Int.natCast_nonneg _
  by_cases h1 : g < 1 ∨ 16 < g
  · have HZ := Lib.hid (presE_range (rels := rels) h1)
    clear hR r3 hbel hnew
    by_cases h2 : g < 1
    · clear h1
      go_enter Try.func78, Try.ntmps78
      go_wp2_with fail
      go_ret2
      exact ⟨⟨_, ret_pair HZ.out.symm rfl⟩, HBE.out⟩
    · have h3 : 16 < g := by omega
      clear h1
      go_enter Try.func78, Try.ntmps78
      go_wp2_with fail
      go_ret2
      exact ⟨⟨_, ret_pair HZ.out.symm rfl⟩, HBE.out⟩
  · obtain ⟨gn, rfl⟩ : ∃ gn : Nat, g = gn := ⟨g.toNat, by omega⟩
    have hg1 : ¬ (gn : Int) < 1 := by omega
    have hg2 : ¬ (16 : Int) < (gn : Int) := by omega
    by_cases h4 : 100 < rels.length
    · have h4' : (100 : Int) < (rels.length : Int) := by omega
      have HZ := Lib.hid (presE_many (rels := rels) h1 h4)
      clear hR r3 hbel hnew h1 h4
      go_enter Try.func78, Try.ntmps78
      go_wp2_with fail
      go_ret2
      exact ⟨⟨_, ret_pair HZ.out.symm rfl⟩, HBE.out⟩
    · have h4' : ¬ (100 : Int) < (rels.length : Int) := by omega
      have h4'' : (rels.length : Int) ≤ 100 := by omega
      have HS : Hid (∀ k, k < rels.length → (∀ j, j < k → presBad gn rels j = 0) → presBad gn rels k ≠ 0 → presE (gn : Int) rels = presBad gn rels k) := Lib.hid fun k => presE_some (by omega) (by omega)
      have HN := Lib.hid (@presE_none gn rels (by omega) (by omega))
      have HP : Hid (∀ q, PredW 121 #[.pointer (some ⟨w.heap.size, 0, none⟩)] (fun x => -9223372036854775808 ≤ x ∧ x ≤ 9223372036854775807) (letBad gn) ((w.alloc (.cells #[.int .i64 (gn : Int), .slice Ar rels.length cr] 40)).drewN q)) := Lib.hid fun q => pred121 gn w.heap.size (.slice Ar rels.length cr) _ (by omega) (cell_of2 hnew).1 (cell_of2 hnew).2
      clear hR r3 hbel hnew h1 h4
      go_enter Try.func78, Try.ntmps78
      go_wp2_with fail
      generalize hw0 : w.alloc (.cells #[.int .i64 (gn : Int), .slice Ar rels.length cr] 40) = w0 at *
      clear hw0
      go_loopw [4, 24] (fun l i wr => ∃ k s : Nat, i = .int .i64 k ∧ k ≤ rels.length ∧ l = .int .i64 (4000 - (s : Int)) ∧ s ≤ 4000 ∧ Hid (s = sumTo rels k ∧ ∀ j, j < k → presBad gn rels j = 0) ∧ ∃ q, wr = w0.drewN q) (fun _ i _ => rels.length - (intOf i).toNat)
      case atStart => exact ⟨0, 0, rfl, by omega, rfl, by omega, Lib.hid ⟨rfl, fun j hj => absurd hj (by omega)⟩, 0, rfl⟩
      case round =>
        obtain ⟨k, s, rfl, hk, rfl, hs, HK, q, rfl⟩ := hrel
        have hk0 : (0 : Int) ≤ (k : Int) := Int.natCast_nonneg _
        by_cases hlt : k < rels.length
        · have hlt' : (k : Int) < (rels.length : Int) := by omega
          obtain ⟨b, o, rfl, hcc⟩ := HR.out (by omega)
          obtain ⟨u, hu, hI⟩ := hcc k hlt
          have hu' : (w0.drewN q).cell? ⟨b, o + k, none⟩ = some u := (HBE.out.cell (p := ⟨b, o + k, none⟩) (World.block_lt_of_cell? w _ hu)).trans hu
          have HI := Lib.hid (hI.below HBE.out)
          obtain ⟨Au, cu, rfl, u1, u2, -⟩ := hI.open_
          have HSU := Lib.hid (sumTo_succ rels k)
          have HBL := Lib.hid (@presBad_long gn rels k)
          have HBT := Lib.hid (@presBad_let gn rels k)
          have HBO := Lib.hid (@presBad_ok gn rels k)
          have HSK : Hid (presBad gn rels k ≠ 0 → presE gn rels = presBad gn rels k) := Lib.hid (HS.out k hlt HK.out.2)
          have HNX : Hid (presBad gn rels k = 0 → ∀ j, j < k + 1 → presBad gn rels j = 0) := Lib.hid fun h => all_succ HK.out.2 h
          have HSM := Lib.hid HK.out.1
          have HPR := Lib.hid (has74_any 121 _ _ _ (w0.drewN q) eg121 (HP.out q) _ (rels.getD k []) (HI.out.drewN q) (fun x hx => HI.out.2 x hx))
          have hln0 : (0 : Int) ≤ ((rels.getD k []).length : Int) := Int.natCast_nonneg _
          clear hcc hI hu HI HS HN HP HR
          generalize hpe : presE (gn : Int) rels = pe at *
          have HPE := Lib.hid hpe
          clear hpe
          generalize presBad gn rels k = pb at *
          generalize hsm : sumTo rels (k + 1) = sm at *
          have HSME := Lib.hid hsm
          clear hsm
          generalize (rels.getD k []).any (letBad gn) = lb at *
          generalize (rels.getD k []).length = L at *
          have hs0 : (0 : Int) ≤ (s : Int) := Int.natCast_nonneg _
          have hs1 : (s : Int) ≤ 4000 := by omega
          have hL1 : (L : Int) ≤ 9223372036854775807 := by omega
          by_cases hov : 4000 < s + L
          · have hov' : (4000 : Int) - (s : Int) - (L : Int) < 0 := by omega
            have HZ : Hid (pe = 4) := Lib.hid (by have h1 := HBL.out (by rw [HSU.out, ← HSM.out]; exact hov); rw [HSK.out (by omega), h1])
            clear hov
            go_wp2_with fail
            go_ret2
            exact ⟨⟨_, ret_pair (by rw [HPE.out, HZ.out]) rfl⟩, below_drewN HBE.out _⟩
          · have hov' : ¬ (4000 : Int) - (s : Int) - (L : Int) < 0 := by omega
            have HSV := Lib.hid hov
            have hsl : s + L ≤ 4000 := by omega
            clear hov
            cases lb with
            | true =>
              have HZ : Hid (pe = 2) := Lib.hid (by have h1 := HBT.out (by rw [HSU.out, ← HSM.out]; exact HSV.out) rfl; rw [HSK.out (by omega), h1])
              go_wp2_with (go_at_call 74; (refine HPR.out.mono ?_); rintro e w' ⟨rfl, q', rfl⟩)
              go_ret2
              exact ⟨⟨_, ret_pair (by rw [HPE.out, HZ.out]) rfl⟩, below_drewN HBE.out _⟩
            | false =>
              have HZ : Hid (∀ j, j < k + 1 → presBad gn rels j = 0) := Lib.hid (HNX.out (HBO.out (by rw [HSU.out, ← HSM.out]; exact HSV.out) rfl))
              go_wp2_with (go_at_call 74; (refine HPR.out.mono ?_); rintro e w' ⟨rfl, q', rfl⟩)
              go_roundw
              case rel => exact ⟨k + 1, s + L, by go_num, by omega, congrArg (Value.int .i64) (by omega), hsl, Lib.hid ⟨by rw [HSME.out, HSU.out, HSM.out], HZ.out⟩, (by first | exact ⟨_, rfl⟩ | exact ex_drewN)⟩
              case measure => simp [intOf]; omega
        · obtain rfl : k = rels.length := by omega
          have HZ := Lib.hid (HN.out HK.out.2)
          clear HS HN HP HR
          go_wp2_with fail
          go_ret2
          exact ⟨⟨_, ret_pair HZ.out.symm rfl⟩, below_drewN HBE.out _⟩
end Go.Proofs
namespace Go.Proofs
open Go.RowKit Go.Shelf Go.Proofs.Ct Go.Maps
theorem col_lt {g : Nat} {x : Int} (h : -(g : Int) ≤ x ∧ x ≤ g ∧ x ≠ 0) : col x < 2 * g := by
  unfold col
  split <;> omega
theorem col_pos {x : Int} (h : 0 < x) : ((col x : Nat) : Int) = 2 * (x - 1) := by unfold col; rw [if_pos h]; omega
theorem col_neg {x : Int} (h : ¬ 0 < x) (h0 : x ≠ 0) : ((col x : Nat) : Int) = 2 * (-x - 1) + 1 := by unfold col; rw [if_neg h]; omega
theorem col133_any (w : World) (x : Int) (h : -1000000 ≤ x ∧ x ≤ 1000000 ∧ x ≠ 0) : Calls Try.prog 133 #[.int .i64 x] w fun e w' => e = .returned (.int .i64 (col x : Nat)) ∧ w = w' := by
  obtain ⟨h1, h2, h3⟩ := h
  by_cases hp : x < 0
  · have HC := Lib.hid (col_neg (by omega : ¬ 0 < x) h3)
    go_enter Try.func133, Try.ntmps133
    go_wp2_with fail
    go_ret
    exact ⟨ret_int (by rw [HC.out]), (by first | trivial | rfl)⟩
  · have HC := Lib.hid (col_pos (by omega : 0 < x))
    go_enter Try.func133, Try.ntmps133
    go_wp2_with fail
    go_ret
    exact ⟨ret_int (by rw [HC.out]), (by first | trivial | rfl)⟩
/-- where a word leads stays in the table, or is nowhere -/
theorem leadTo_bd {g : Nat} {t : Tb} (hg : TGood g t) {ws : List Int} (hl : LetsOk g ws) {r : Int} (hr : -1 ≤ r ∧ r < t.length) : ∀ k, k ≤ ws.length → -1 ≤ leadTo t r ws k ∧ leadTo t r ws k < t.length
  | 0, _ => hr
  | k + 1, hk => by
    have ih := leadTo_bd hg hl hr k (by omega)
    rw [leadTo_succ]
    split
    · exact ih
    · exact hg.bd _ (by omega) _ (col_lt (hl.at_ (by omega)))
theorem ret_ib {k : IntKind} {a c : Int} {b d : Bool} (h : a = c) (h' : b = d) : Ending.returned (.tuple #[.int k a, .bool b]) = Ending.returned (.tuple #[.int k c, .bool d]) := by rw [h, h']
def TracePost (l : Int) (w : World) (e : Ending) (w' : World) : Prop := (e = .returned (.tuple #[.int .i64 (if l < 0 then 0 else l), .bool (decide (0 ≤ l))])) ∧ ∃ q, w' = w.drewN q
set_option maxRecDepth 100000 in
set_option maxHeartbeats 1000000 in
theorem trace94_any (w : World) (v u : Value) (g : Nat) (t : Tb) (r : Nat) (ws : List Int) (ht : Tab w v t) (hu : IntsAt w u ws) (hg : TGood g t) (hl : LetsOk g ws) (hr : r < t.length) :
    Calls Try.prog 94 #[v, .int .i64 (r : Int), u] w (TracePost (leads t r ws) w) := by
  obtain ⟨A, c, rfl, h1, h2, h3⟩ := ht.open_
  obtain ⟨Au, cu, rfl, hu1, hu2, hu3⟩ := hu.open_
  obtain ⟨bt, ot, rfl, h4⟩ := h3 (by omega)
  have HT := Lib.hid h4
  have HU := Lib.hid hu3
  have HG := Lib.hid hg
  have HL := Lib.hid hl
  have hrI : (r : Int) < (t.length : Int) := by omega
  have hr0 : (0 : Int) ≤ (r : Int) := Int.natCast_nonneg _
  have HBD := Lib.hid (fun k hk => leadTo_bd hg hl (r := (r : Int)) (by omega) k hk)
  have hn2 := hg.n2
  have hg16 := hg.g16
  clear ht hu h3 h4 hu3 hg hl
  go_enter Try.func94, Try.ntmps94
  go_wp2_with fail
  go_loopw [1, 12] (fun f i wr => ∃ k s : Nat, i = .int .i64 k ∧ k ≤ ws.length ∧ f = .int .i64 (s : Int) ∧ s < t.length ∧ Hid ((s : Int) = leadTo t r ws k) ∧ ∃ q, wr = w.drewN q) (fun _ i _ => ws.length - (intOf i).toNat)
  case atStart => exact ⟨0, r, rfl, by omega, rfl, hr, Lib.hid rfl, 0, rfl⟩
  case round =>
    obtain ⟨k, s, rfl, hk, rfl, hs, HS, q, rfl⟩ := hrel
    have hk0 : (0 : Int) ≤ (k : Int) := Int.natCast_nonneg _
    have hs0 : (0 : Int) ≤ (s : Int) := Int.natCast_nonneg _
    by_cases hlt : k < ws.length
    · have hlt' : (k : Int) < (ws.length : Int) := by omega
      have hsI : (s : Int) < (t.length : Int) := by omega
      obtain ⟨bw, ow, rfl, hcc⟩ := HU.out (by omega)
      have hck := hcc k hlt
      obtain ⟨u, hu, hI⟩ := HT.out s hs
      have hI2 : IntsAt w u (t.row s) := hI
      obtain ⟨Ar, cr, rfl, hr1, hr2, hr3⟩ := hI2.open_
      have hx := HL.out.at_ hlt
      have hcol := col_lt hx
      have hrl := HG.out.len s hs
      obtain ⟨br, or', rfl, hrc⟩ := hr3 (by omega)
      have hcx := hrc (col (ws.getD k 0)) (by omega)
      have hbd := HG.out.bd s hs _ hcol
      have HNX : Hid (leadTo t r ws (k + 1) = (t.row s).getD (col (ws.getD k 0)) 0) := Lib.hid (by
        rw [leadTo_succ, ← HS.out, if_neg (by omega), Int.toNat_natCast]; rfl)
      have HNEG : Hid ((t.row s).getD (col (ws.getD k 0)) 0 < 0 → leads t r ws < 0) := Lib.hid fun h => leads_neg (k := k + 1) (by omega) (by rw [HNX.out]; exact h)
      have HCO : Hid (∀ n, Calls Try.prog 133 #[.int .i64 (ws.getD k 0)] (w.drewN n) fun e w' => e = .returned (.int .i64 (col (ws.getD k 0) : Nat)) ∧ w.drewN n = w') := Lib.hid fun n => col133_any _ _ (by omega)
      have hc0 : (0 : Int) ≤ ((col (ws.getD k 0) : Nat) : Int) := Int.natCast_nonneg _
      have hc1 : ((col (ws.getD k 0) : Nat) : Int) < ((t.row s).length : Int) := by omega
      have hbd' : -1 ≤ (t.row s).getD (col (ws.getD k 0)) 0 ∧ (t.row s).getD (col (ws.getD k 0)) 0 < t.length := hbd
      clear hcc hI hI2 hr3 hrc hx hcol hrl hbd
      generalize (t.row s).getD (col (ws.getD k 0)) 0 = y at *
      generalize col (ws.getD k 0) = cx at *
      generalize ws.getD k 0 = x at *
      obtain ⟨hy1, hy2⟩ := hbd'
      by_cases hy : y < 0
      · have HLN := Lib.hid (HNEG.out hy)
        go_wp2_with fail
        go_quiet ((go_at_call 133; exact quiet_add_left (HCO.out _)))
        go_wp2_with fail
        go_ret2
        exact ⟨ret_ib (by rw [if_pos HLN.out]) (by have := HLN.out; simp; omega), (by first | exact ⟨_, rfl⟩ | exact ex_drewN)⟩
      · obtain ⟨s', rfl⟩ : ∃ s' : Nat, y = s' := ⟨y.toNat, by omega⟩
        go_wp2_with fail
        go_quiet ((go_at_call 133; exact quiet_add_left (HCO.out _)))
        go_wp2_with fail
        go_roundw
        case rel => exact ⟨k + 1, s', by go_num, by omega, rfl, by omega, Lib.hid HNX.out.symm, (by first | exact ⟨_, rfl⟩ | exact ex_drewN)⟩
        case measure => simp [intOf]; omega
    · obtain rfl : k = ws.length := by omega
      have HZ : Hid ((s : Int) = leads t r ws) := Lib.hid HS.out
      go_wp2_with fail
      go_ret2
      exact ⟨ret_ib (by rw [← HZ.out, if_neg (by omega)]) (by rw [← HZ.out]; simp), (by first | exact ⟨_, rfl⟩ | exact ex_drewN)⟩
theorem pred124 (g B : Nat) (w : World) (hg : g ≤ 16) (hc : w.cell? ⟨B, 0, none⟩ = some (.int .i64 (g : Int))) :
    PredW 124 #[.pointer (some ⟨B, 0, none⟩)] (fun x => -9223372036854775808 ≤ x ∧ x ≤ 9223372036854775807) (letBad g) w := fun x q hx => by
  have hcq : (w.drewN q).cell? ⟨B, 0, none⟩ = some (.int .i64 (g : Int)) := hc
  show Calls Try.prog 124 #[.int .i64 x, .pointer (some ⟨B, 0, none⟩)] (w.drewN q) _
  have h0 : letBad g x = (decide (x = 0) || decide (x < -(g : Int)) || decide ((g : Int) < x)) := rfl
  have H0 := Lib.hid h0
  clear h0
  generalize hW : w.drewN q = W at *
  have HW := Lib.hid hW
  clear hW
  have hg0 : (0 : Int) ≤ (g : Int) := Int.natCast_nonneg _
  have hg1 : (g : Int) ≤ 16 := by omega
  by_cases h1 : x = 0
  · subst h1
    go_enter Try.func124, Try.ntmps124
    go_wp2_with fail
    go_ret
    exact ⟨ret_bool (by rw [H0.out]; simp), q, HW.out.symm⟩
  · have d1 : (x == 0) = false := by simpa using h1
    by_cases h2 : x < -(g : Int)
    · go_enter Try.func124, Try.ntmps124
      go_wp2_with fail
      go_ret
      exact ⟨ret_bool (by rw [H0.out]; simp [h2]), q, HW.out.symm⟩
    · by_cases h3 : (g : Int) < x
      · go_enter Try.func124, Try.ntmps124
        go_wp2_with fail
        go_ret
        exact ⟨ret_bool (by rw [H0.out]; simp [h3]), q, HW.out.symm⟩
      · go_enter Try.func124, Try.ntmps124
        go_wp2_with fail
        go_ret
        exact ⟨ret_bool (by rw [H0.out]; simp [h1, h2, h3]), q, HW.out.symm⟩
theorem eg124 : ∀ args w, (callFunc 124 args).run Try.prog w = .ok (.enter 124 args) w := enters_of Try.func124 (by kernel_rfl) rfl
set_option maxRecDepth 100000 in
theorem fine83_any (w : World) (g : Nat) (u : Value) (ws : List Int) (hg : g ≤ 16) (hu : IntsAt w u ws) : Calls Try.prog 83 #[.int .i64 (g : Int), u] w fun e w' => e = .returned (.bool (!(ws.any (letBad g)))) ∧ Below w.heap.size w w' := by
  have hb0 : Below w.heap.size w (w.alloc (.cells #[.int .i64 (g : Int)] 3)) := (Below.refl _ _).alloc (Nat.le_refl _) _
  have hnew0 := heap_alloc_new w (.cells #[.int .i64 (g : Int)] 3)
  have HC := Lib.hid (has74_any 124 _ _ _ (w.alloc (.cells #[.int .i64 (g : Int)] 3)) eg124 (pred124 g w.heap.size _ hg (cell_of1 hnew0).1) u ws (kept_ints.below hu hb0) (fun x hx => hu.2 x hx))
  have HB := Lib.hid hb0
  obtain ⟨A, c, rfl, -, -, -⟩ := hu.open_
  clear hu hb0 hnew0
  generalize ws.any (letBad g) = b at *
  go_enter Try.func83, Try.ntmps83
  go_wp2_with (go_at_call 74; (refine HC.out.mono ?_); rintro e w2 ⟨rfl, q, rfl⟩)
  go_ret
  exact ⟨rfl, below_drewN HB.out _⟩
end Go.Proofs
