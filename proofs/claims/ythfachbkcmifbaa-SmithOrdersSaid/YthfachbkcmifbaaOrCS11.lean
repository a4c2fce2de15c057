/- SmithOrders: what lies in memory; SmithMinors; SmithOrders; Arguments opened: lists of numbers, tables, presentations. -/
import Derived.Test.YthfachbkcmifbaaOrCS10
import Derived.Test.YthfachbkcmifbaaOrCS1
import Derived.ProofKit
import Derived.Deep.Slices
import Derived.Deep.Strs
namespace Go.Proofs
open Go.RowKit Go.Shelf Go.Proofs.Sm
/-- two words that grow side by side, the one of inverse letters -/
structure WdSt (wi wr : World) (va vb : Value) (xs : List Int) : Prop where
  a : OwnI wi.heap.size wr va xs
  b : OwnI wi.heap.size wr vb (negL xs)
  sep : ∀ g, va.ownBlock = some g → vb.ownBlock ≠ some g
  below : Below wi.heap.size wi wr
theorem WdSt.nil (wi wr : World) (h : Below wi.heap.size wi wr) : WdSt wi wr (.slice none 0 0) (.slice none 0 0) [] := ⟨World.ownsRow_nil _ _ _ _, World.ownsRow_nil _ _ _ _, fun g hg => (by cases hg), h⟩
theorem WdSt.push {wi wr : World} {va vb : Value} {xs : List Int} (h : WdSt wi wr va vb xs) (z : Int) (hl : xs.length ≤ 1000) :
    ∃ A1 c1 w1, (Builtin.append_ #[50, 50] 50 #[va, .slice (some ⟨wr.heap.size, 0, none⟩) 1 1]).run Try.prog (wr.alloc (.cells #[.int .i64 z] 3)) = .ok (.slice A1 (xs.length + 1) c1) w1 ∧
      ∃ A2 c2 w2, (Builtin.append_ #[50, 50] 50 #[vb, .slice (some ⟨w1.heap.size, 0, none⟩) 1 1]).run Try.prog (w1.alloc (.cells #[.int .i64 (-z)] 3)) = .ok (.slice A2 (xs.length + 1) c2) w2 ∧
        WdSt wi w2 (.slice A1 (xs.length + 1) c1) (.slice A2 (xs.length + 1) c2) (xs ++ [z]) := by
  have hnl : (negL xs).length = xs.length := by simp [negL]
  obtain ⟨A1, c1, w1, hr1, ho1, hg1, hw1⟩ := push_int 50 50 Try.underlying50 wr wi.heap.size va xs h.a z (by omega) h.below.size
  have hb1 : Below wi.heap.size wi w1 := h.below.grown hg1 h.below.size fun r hr => (owns_block h.a r hr).1
  have hob : OwnI wi.heap.size w1 vb (negL xs) := owns_keep h.b fun r hr => hg1.block r (owns_lt h.b hr) (fun e => h.sep r e.symm hr)
  obtain ⟨A2, c2, w2, hr2, ho2, hg2, hw2⟩ := push_int 50 50 Try.underlying50 w1 wi.heap.size vb (negL xs) hob (-z) (by omega) hb1.size
  rw [hnl] at hr2 ho2 hw2
  have hsep1 : ∀ g, (Value.slice A1 (xs.length + 1) c1).ownBlock = some g → vb.ownBlock ≠ some g := fun g hg e => by
    rcases hw1 with hw | ⟨r, hr, hge⟩
    · exact h.sep g (by rw [← hw]; exact hg) e
    · rw [hr] at hg
      have := Option.some.inj hg
      have := owns_lt h.b e
      omega
  refine ⟨A1, c1, w1, hr1, A2, c2, w2, hr2, ⟨owns_keep ho1 fun r hr => hg2.block r (owns_lt ho1 hr) (fun e => hsep1 r hr e.symm), by rw [show negL (xs ++ [z]) = negL xs ++ [-z] by simp [negL]]; exact ho2, fun g hg e => ?_, hb1.grown hg2 hb1.size fun r hr => (owns_block hob r hr).1⟩⟩
  rcases hw2 with hw | ⟨r, hr, hge⟩
  · exact hsep1 g hg (by rw [← hw]; exact e)
  · rw [hr] at e
    have := Option.some.inj e
    have := owns_lt ho1 hg
    omega
/-- the two presentations under way -/
structure OrdSt (bp br n : Nat) (w4 wr : World) (vp vr : Value) (ps rs : List (List Int)) : Prop where
  p : RowsAt w4.heap.size wr vp ps
  r : RowsAt w4.heap.size wr vr rs
  sep : ∀ g, vp.ownBlock = some g → vr.ownBlock ≠ some g
  bxp : wr.heap[bp]? = some (.cells #[.int .i64 (n : Int), vp] 49 (0, 0))
  bxr : wr.heap[br]? = some (.cells #[.int .i64 (n : Int), vr] 49 (0, 0))
  ne : bp ≠ br ∧ w4.heap.size ≤ bp ∧ w4.heap.size ≤ br
  below : Below w4.heap.size w4 wr
section
variable {bp br n : Nat} {w4 wr : World} {vp vr : Value} {ps rs : List (List Int)}
theorem RowsAt.block {base : Nat} {w : World} {v : Value} {ws : List (List Int)} (h : RowsAt base w v ws) {g : Nat} (hg : v.ownBlock = some g) : base ≤ g ∧ ∃ C, w.heap[g]? = some (.cells C 50 (0, 0)) := by
  obtain ⟨vs, ho, -⟩ := h
  exact owns_block ho g hg
theorem ne_box {w : World} {v : Value} {base : Nat} {ws : List (List Int)} (h : RowsAt base w v ws) {b : Nat} {C : Array Value} (hb : w.heap[b]? = some (.cells C 49 (0, 0))) : v.ownBlock ≠ some b := fun e => by
  obtain ⟨-, C', hC'⟩ := h.block e
  rw [hb] at hC'
  injection hC' with h5
  injection h5 with _ h6 _
  exact absurd h6 (by decide)
theorem RowsAt.setBox {base : Nat} {w : World} {v : Value} {ws : List (List Int)} (h : RowsAt base w v ws) {b k : Nat} {C : Array Value} (hb : w.heap[b]? = some (.cells C 49 (0, 0))) (u : Value) : RowsAt base (w.setCell ⟨b, k, none⟩ u) v ws :=
  h.grown (T := 49) (by decide) hb (ne_box h hb) (grown_setCell w b k u)
theorem OrdSt.keep (h : OrdSt bp br n w4 wr vp vr ps rs) {w' : World} (hb : Below wr.heap.size wr w') : OrdSt bp br n w4 w' vp vr ps rs :=
  ⟨h.p.keep hb, h.r.keep hb, h.sep, (hb.block _ (Array.getElem?_eq_some_iff.1 h.bxp).1).trans h.bxp, (hb.block _ (Array.getElem?_eq_some_iff.1 h.bxr).1).trans h.bxr, h.ne, h.below.trans (hb.mono h.below.size)⟩
theorem OrdSt.drewN (h : OrdSt bp br n w4 wr vp vr ps rs) (q : Nat) : OrdSt bp br n w4 (wr.drewN q) vp vr ps rs := h.keep (below_drewN (Below.refl _ _) q)
theorem OrdSt.cells (h : OrdSt bp br n w4 wr vp vr ps rs) : wr.cell? ⟨bp, 1, none⟩ = some vp ∧ wr.frozen? ⟨bp, 1, none⟩ = false ∧ wr.cell? ⟨br, 1, none⟩ = some vr ∧ wr.frozen? ⟨br, 1, none⟩ = false ∧ wr.cell? ⟨bp, 0, none⟩ = some (.int .i64 (n : Int)) ∧ wr.cell? ⟨br, 0, none⟩ = some (.int .i64 (n : Int)) :=
  ⟨by rw [cell_of_row _ _ _ _ _ _ h.bxp]; rfl, by simp [World.frozen?, h.bxp], by rw [cell_of_row _ _ _ _ _ _ h.bxr]; rfl, by simp [World.frozen?, h.bxr], by rw [cell_of_row _ _ _ _ _ _ h.bxp]; rfl, by rw [cell_of_row _ _ _ _ _ _ h.bxr]; rfl⟩
/-- a word joins p -/
theorem OrdSt.pushP (h : OrdSt bp br n w4 wr vp vr ps rs) {u : Value} {xs : List Int} (h1 : u.oneCell' = true) (hx : OwnI w4.heap.size wr u xs) (hl : ps.length ≤ 1000) :
    ∃ A' c' w', (Builtin.append_ #[47, 47] 47 #[vp, .slice (some ⟨wr.heap.size, 0, none⟩) 1 1]).run Try.prog (wr.alloc (.cells #[u] 50)) = .ok (.slice A' (ps.length + 1) c') w' ∧ (∃ y, w'.cell? ⟨bp, 1, none⟩ = some y) ∧ w'.frozen? ⟨bp, 1, none⟩ = false ∧
      OrdSt bp br n w4 (w'.setCell ⟨bp, 1, none⟩ (.slice A' (ps.length + 1) c')) (.slice A' (ps.length + 1) c') vr (ps ++ [xs]) rs ∧ (∀ v ys, OwnI w4.heap.size wr v ys → OwnI w4.heap.size (w'.setCell ⟨bp, 1, none⟩ (.slice A' (ps.length + 1) c')) v ys) := by
  obtain ⟨A', c', w', hr, hp', hgr, hwh⟩ := h.p.push h.below.size h1 hx (by omega)
  have hbp : w'.heap[bp]? = wr.heap[bp]? := hgr.block bp (Array.getElem?_eq_some_iff.1 h.bxp).1 (fun e => ne_box h.p h.bxp e.symm)
  have hbr : w'.heap[br]? = wr.heap[br]? := hgr.block br (Array.getElem?_eq_some_iff.1 h.bxr).1 (fun e => ne_box h.p h.bxr e.symm)
  have hbp' := hbp.trans h.bxp
  have hr2 : RowsAt w4.heap.size w' vr rs := by
    refine h.r.same (fun r hr' => hgr.block r (by obtain ⟨-, C, hC⟩ := h.r.block hr'; exact (Array.getElem?_eq_some_iff.1 hC).1) (fun e => h.sep r e.symm hr')) fun r C hC => hgr.block r (Array.getElem?_eq_some_iff.1 hC).1 (fun e => ?_)
    obtain ⟨-, C', hC'⟩ := h.p.block e.symm
    rw [hC] at hC'
    injection hC' with h5
    injection h5 with _ h6 _
    exact absurd h6 (by decide)
  have hset : ∀ p, p ≠ bp → (w'.setCell ⟨bp, 1, none⟩ (.slice A' (ps.length + 1) c')).heap[p]? = w'.heap[p]? := fun p hp => Below.heap_setCell w' ⟨bp, 1, none⟩ _ p hp
  refine ⟨A', c', w', hr, ⟨vp, by rw [cell_of_row _ _ _ _ _ _ hbp']; rfl⟩, by simp [World.frozen?, hbp'], ⟨hp'.setBox hbp' _, hr2.setBox hbp' _, fun g hg e => ?_, by rw [box_set hbp']; rfl, (hset br (Ne.symm h.ne.1)).trans (hbr.trans h.bxr), h.ne, (h.below.grown hgr h.below.size fun r hr => (h.p.block hr).1).setCell (p := ⟨bp, 1, none⟩) h.ne.2.1 _⟩, fun v ys hv => ?_⟩
  · rcases hwh with hw | ⟨r, hr', hge⟩
    · exact h.sep g (by rw [← hw]; exact hg) e
    · rw [hr'] at hg
      have e2 := Option.some.inj hg
      obtain ⟨-, C, hC⟩ := h.r.block e
      have := (Array.getElem?_eq_some_iff.1 hC).1
      omega
  · refine owns_keep hv fun r hr' => ?_
    obtain ⟨-, C, hC⟩ := owns_block hv r hr'
    have hne : r ≠ bp := fun e => by
      rw [e, h.bxp] at hC
      injection hC with h5
      injection h5 with _ h6 _
      exact absurd h6 (by decide)
    refine (hset r hne).trans (hgr.block r (Array.getElem?_eq_some_iff.1 hC).1 (fun e => ?_))
    obtain ⟨-, C', hC'⟩ := h.p.block e.symm
    rw [hC] at hC'
    injection hC' with h5
    injection h5 with _ h6 _
    exact absurd h6 (by decide)
/-- a word joins r at its head -/
theorem OrdSt.consR (h : OrdSt bp br n w4 wr vp vr ps rs) {u : Value} {xs : List Int} (h1 : u.oneCell' = true) (hx : OwnI w4.heap.size wr u xs) (hl : rs.length ≤ 1000) :
    ∃ A' c' w', (Builtin.append_ #[47, 47] 47 #[.slice (some ⟨wr.heap.size, 0, none⟩) 1 1, vr]).run Try.prog (wr.alloc (.cells #[u] 50)) = .ok (.slice A' (rs.length + 1) c') w' ∧ (∃ y, w'.cell? ⟨br, 1, none⟩ = some y) ∧ w'.frozen? ⟨br, 1, none⟩ = false ∧
      OrdSt bp br n w4 (w'.setCell ⟨br, 1, none⟩ (.slice A' (rs.length + 1) c')) vp (.slice A' (rs.length + 1) c') ps (xs :: rs) := by
  obtain ⟨A', c', w', hr, hr', hb, hown⟩ := h.r.cons h.below.size h1 hx (by omega)
  have hk := h.keep hb
  refine ⟨A', c', w', hr, ⟨vr, hk.cells.2.2.1⟩, hk.cells.2.2.2.1, ⟨hk.p.setBox hk.bxr _, hr'.setBox hk.bxr _, fun g hg e => ?_, (Below.heap_setCell w' ⟨br, 1, none⟩ _ bp h.ne.1).trans hk.bxp, by rw [box_set hk.bxr]; rfl, h.ne, hk.below.setCell (p := ⟨br, 1, none⟩) h.ne.2.2 _⟩⟩
  have h5 := hown g e
  obtain ⟨-, C, hC⟩ := h.p.block hg
  have := (Array.getElem?_eq_some_iff.1 hC).1
  omega
end
end Go.Proofs
namespace Go.Proofs
open Go.RowKit Go.Shelf Go.Proofs.Sm
/-- the arguments of SmithMinors, cut to size -/
theorem picks4 (x : Int) : ∃ m : Nat, x % 4 = (m : Int) ∧ m ≤ 3 := by
  have h3 := Int.emod_nonneg x (show (4 : Int) ≠ 0 by omega)
  have h4 := Int.emod_lt_of_pos x (show (0 : Int) < 4 by omega)
  exact ⟨(x % 4).toNat, by omega, by omega⟩
end Go.Proofs
namespace Go.Proofs
open Go.RowKit Go.Shelf Go.Proofs.Sm
theorem r_loadAt {o : Oper} {a : Act} {w : World} (T : TypeId) (x : Operand) (p u : Value) (ho : o.op = .load T x) (hx : a.eval x = p) (hr : (Instr.loadAt T p).run Try.prog w = .ok u w) : (execOp a.eval o).run Try.prog w = .ok (.value u) w := by
  unfold execOp
  simp only [ho, hx, Sem.run_bind, hr, Result.andThen_ok]
  rfl
theorem load49 {w : World} {b : Nat} {v0 v1 : Value} (hc : w.heap[b]? = some (.cells #[v0, v1] 49 (0, 0))) : (Instr.loadAt 49 (.pointer (some ⟨b, 0, none⟩))).run Try.prog w = .ok (.agg #[v0, v1]) w := by
  have hr : w.rangeAt b 0 [v0, v1] := fun j v hj => by rw [cell_of_row _ _ _ _ _ _ hc, Nat.zero_add]; simpa using hj
  exact run_loadAt_mid (P := Try.prog) w b 0 49 [v0, v1] _ hr Try.underlying49 rfl (by kernel_rfl)
theorem WdSt.drew {wi wr : World} {va vb : Value} {xs : List Int} (h : WdSt wi wr va vb xs) : WdSt wi wr.drew va vb xs := ⟨owns_keep h.a fun _ _ => rfl, owns_keep h.b fun _ _ => rfl, h.sep, below_drew h.below⟩
theorem relsTo_succ {D : Mat} {n i : Nat} (h : i < D.length) : relsTo D n (i + 1) = relsTo D n i ++ [wordTo (D.getD i []) n] := by
  unfold relsTo
  rw [← take_getD D h, List.map_append]; rfl
theorem backTo_succ {D : Mat} {n i : Nat} (h : i < D.length) : backTo D n (i + 1) = negL (wordTo (D.getD i []) n) :: backTo D n i := by
  unfold backTo
  rw [← take_getD D h, List.map_append, List.reverse_append]; rfl
theorem ord_start (w4 : World) (n : Nat) : OrdSt w4.heap.size (w4.heap.size + 1) n w4 ((w4.alloc (.cells #[.int .i64 (n : Int), .slice none 0 0] 49)).alloc (.cells #[.int .i64 (n : Int), .slice none 0 0] 49)) (.slice none 0 0) (.slice none 0 0) [] [] := by
  have h1 := heap_alloc_new w4 (.cells #[.int .i64 (n : Int), .slice none 0 0] 49)
  have h2 := heap_alloc_new (w4.alloc (.cells #[.int .i64 (n : Int), .slice none 0 0] 49)) (.cells #[.int .i64 (n : Int), .slice none 0 0] 49)
  rw [World.size_alloc] at h2
  exact ⟨RowsAt.nil _ _, RowsAt.nil _ _, fun g hg => (by cases hg), (Below.heap_alloc _ _ _ (by simp)).trans h1, h2, ⟨by omega, Nat.le_refl _, by omega⟩, ((Below.refl _ _).alloc (Nat.le_refl _) _).alloc (by simp) _⟩
set_option maxRecDepth 100000 in
theorem orders_long (w : World) (v1 : Value) (l1 : List Int) (x : Int) (h1 : IntsAt w v1 l1) (hl : 20 < l1.length) : Calls Try.prog 6 #[v1, .int .i64 x] w (YesPost w) := by
  have HL := Lib.hid (lives9_any w)
  obtain ⟨A, c, rfl, -, -, -⟩ := h1.open_
  have hd : (20 : Int) < (l1.length : Int) := by omega
  clear h1 hl
  go_enter Try.func6, Try.ntmps6
  go_wp2_with (go_at_call 9; (refine HL.out.mono ?_); rintro e w1 ⟨rfl, hb⟩; have HB := Lib.hid hb; clear hb)
  go_ret
  exact ⟨rfl, HB.out⟩
set_option maxRecDepth 100000 in
set_option maxHeartbeats 2000000 in
theorem orders_five (w : World) (v1 : Value) (l : List Int) (x : Int) (h1 : IntsAt w v1 l) (hx : In64 x) (hl : l.length ≤ 20) (n m : Nat) (hxm : x % 4 = (m : Int)) (hn : n = m + 1) (hn4 : n ≤ 4) (hE : GrE n (drawnE l n n) [] 0 5) : Calls Try.prog 6 #[v1, .int .i64 x] w (YesPost w) := by
  have HL := Lib.hid (lives9_any w)
  have HPX := Lib.hid fun W => pick19_any W x 4 hx (by omega) (by omega)
  rw [hxm] at HPX
  have HN := Lib.hid hn
  have hm0 : (0 : Int) ≤ (m : Int) := Int.natCast_nonneg _
  have hm1 : (m : Int) ≤ 3 := by omega
  have hnm : (1 : Int) + (m : Int) = (n : Int) := by omega
  have hld : (l.length : Int) ≤ 20 := by omega
  have HI := Lib.hid h1
  have HE := Lib.hid hE
  obtain ⟨A, c, rfl, -, -, -⟩ := h1.open_
  have HDR : Hid (∀ W, Below w.heap.size w W → _) := Lib.hid fun W hW => drawn_at n n HI.out hW (by omega) hn4 hn4
  clear h1 hE hxm hn
  go_enter Try.func6, Try.ntmps6
  go_wp2_with (first
    | (go_at_call 9; (refine HL.out.mono ?_); rintro e w1 ⟨rfl, hb⟩; have HB := Lib.hid hb; clear hb)
    | (go_at_call 19; (with_reducible refine (HPX.out _).mono ?_); rintro e w' ⟨rfl, rfl⟩)
    | (go_at_call 20; (refine (HDR.out w1 HB.out).mono ?_); rintro e w2 ⟨A2, c2, rfl, HD⟩; have HS := Lib.hid (group13_any w2 n _ _ HD.out.1 HE.out))
    | (go_at_call 13; (refine HS.out.mono ?_); rintro e w3 ⟨⟨vt, rfl, ht⟩, hb⟩; obtain ⟨At, ct, rfl, -, -, -⟩ := id ht.open_; have HB3 := Lib.hid (HD.out.2.trans (hb.mono HD.out.2.size)); clear ht hb))
  go_ret
  exact ⟨rfl, HB3.out⟩
set_option maxRecDepth 100000 in
set_option maxHeartbeats 16000000 in
theorem orders_some (w : World) (v1 : Value) (l : List Int) (x : Int) (h1 : IntsAt w v1 l) (hx : In64 x) (hl : l.length ≤ 20) (n m : Nat) (hxm : x % 4 = (m : Int)) (hn : n = m + 1) (hn4 : n ≤ 4) (t : List Int) (free : Int) (hO : OrdOk n (drawnE l n n) t free) : Calls Try.prog 6 #[v1, .int .i64 x] w (YesPost w) := by
  have HL := Lib.hid (lives9_any w)
  have HPX := Lib.hid fun W => pick19_any W x 4 hx (by omega) (by omega)
  rw [hxm] at HPX
  have HN := Lib.hid hn
  have hm0 : (0 : Int) ≤ (m : Int) := Int.natCast_nonneg _
  have hm1 : (m : Int) ≤ 3 := by omega
  have hnm : (1 : Int) + (m : Int) = (n : Int) := by omega
  have hld : (l.length : Int) ≤ 20 := by omega
  have HI := Lib.hid h1
  obtain ⟨A, c, rfl, -, -, -⟩ := h1.open_
  have HDR : Hid (∀ W, Below w.heap.size w W → _) := Lib.hid fun W hW => drawn_at n n HI.out hW (by omega) hn4 hn4
  have HRD := Lib.hid (drawn_rect l n n)
  have HC0 := Lib.hid (chg_start l n n).bd
  obtain ⟨D, hD⟩ : ∃ D, D = drawnE l n n := ⟨_, rfl⟩
  rw [← hD] at hO HDR HRD HC0
  have HO := Lib.hid hO
  obtain ⟨tl, htl⟩ : ∃ tl, tl = t.length := ⟨_, rfl⟩
  have HTL := Lib.hid htl
  have htl4 : tl ≤ 4 := by rw [htl]; exact hO.len
  have htli : (tl : Int) ≤ 4 := by omega
  have hn0 : (0 : Int) ≤ (n : Int) := Int.natCast_nonneg _
  have hnb : (n : Int) ≤ 4 := by omega
  have hn1 : 1 ≤ n := by omega
  have HPT : Hid (∀ i, 1 ≤ prodL (t.take i) ∧ prodL (t.take i) ≤ 31104) := Lib.hid fun i => ⟨(prodL_take hO.pos i).1, Int.le_trans (prodL_take hO.pos i).2 hO.small⟩
  have HPS : Hid (∀ i, i < tl → prodL (t.take i) * t.getD i 0 = prodL (t.take (i + 1))) := Lib.hid fun i hi => by
    have : t.take (i + 1) = t.take i ++ [t.getD i 0] := take_snoc t (by rw [← htl]; exact hi)
    rw [this, prodL_app]; simp [prodL]
  have HPE : Hid (prodL (t.take tl) = prodL t) := Lib.hid (by rw [htl, List.take_length])
  clear h1 hxm hn hD hO htl
  go_enter Try.func6, Try.ntmps6
  go_wp2_with (first
    | (go_at_call 9; (refine HL.out.mono ?_); rintro e w1 ⟨rfl, hb⟩; have HB := Lib.hid hb; clear hb)
    | (go_at_call 19; (with_reducible refine (HPX.out _).mono ?_); rintro e w' ⟨rfl, rfl⟩)
    | (go_at_call 20; (refine (HDR.out w1 HB.out).mono ?_); rintro e w2 ⟨A2, c2, rfl, HD⟩; have HS := Lib.hid (group13_any w2 n _ _ HD.out.1 HO.out.gr))
    | (go_at_call 13
       (refine HS.out.mono ?_)
       rintro e w3 ⟨⟨vt, rfl, ht⟩, hb⟩
       have HB3 := Lib.hid (HD.out.2.trans (hb.mono HD.out.2.size))
       have HTD := Lib.hid (kept_tab.below HD.out.1 hb)
       obtain ⟨At, ct, rfl, e1, e2, e3⟩ := id ht.open_
       have HTI := Lib.hid ht
       rw [← HTL.out] at e1 e3 ⊢
       have HC := Lib.hid e3
       clear ht hb e3))
  go_loopw [9, 10] (fun zp z wr => ∃ i : Nat, i ≤ tl ∧ z = .int .i64 i ∧ zp = .int .i64 (prodL (t.take i)) ∧ ∃ q, wr = w3.drewN q) (fun _ z _ => tl - (intOf z).toNat)
  case atStart => exact ⟨0, by omega, rfl, by rfl, 0, rfl⟩
  case round =>
    obtain ⟨i, hi, rfl, rfl, q, rfl⟩ := hrel
    have hi0 : (0 : Int) ≤ (i : Int) := Int.natCast_nonneg _
    by_cases hlt : i < tl
    · have hlt' : (i : Int) < (tl : Int) := by omega
      obtain ⟨b, o, rfl, hcc⟩ := HC.out (by omega)
      have hx := hcc i hlt
      have hp1 := HPS.out i hlt
      have hp2 := HPT.out (i + 1)
      clear hcc
      generalize t.getD i 0 = z at *
      generalize prodL (t.take i) = p0 at *
      generalize hp' : prodL (t.take (i + 1)) = p1 at *
      have hw1 : IntKind.i64.wrap p1 = p1 := IntWalk.i64_in _ (by omega)
      have hw2 : wrap64 p1 = p1 := by rw [wr_wrap64, wr_in (by omega)]
      go_wp2_with fail
      go_roundw
      case rel => exact ⟨i + 1, by omega, by go_num, by rw [hp'], (by first | exact ⟨_, rfl⟩ | exact ex_drewN)⟩
      case measure => simp [intOf]; omega
    · obtain rfl : i = tl := by omega
      have HDET := Lib.hid (det_at HTD.out HRD.out hn4)
      have hdb := HO.out.det
      have hwd : Sm.wr (detE n (ent D)) = detE n (ent D) := wr_in (by omega)
      rw [hwd] at HDET
      have hz1 := HO.out.zero
      have hz2 := HO.out.ord
      have hsm := HO.out.small
      rw [HPE.out]
      generalize detE n (ent D) = z at *
      generalize prodL t = pt at *
      clear hwd
      have hwn : IntKind.i64.wrap (-z) = -z := IntWalk.i64_in _ (by omega)
      have hcase : (z = 0 ∧ 0 < free) ∨ (z < 0 ∧ free = 0 ∧ pt = -z) ∨ (0 < z ∧ free = 0 ∧ pt = z) := by
        have := HO.out.fbd
        omega
      clear hz1 hz2 hsm HPT HPS HPE HL HPX HDR HS HD HB
      have hcase2 : ((z == 0) = true ∧ (z != 0) = false ∧ decide (0 < free) = true) ∨ ((z == 0) = false ∧ (z != 0) = true ∧ decide (0 < free) = false ∧ z < -z ∧ pt = -z) ∨ ((z == 0) = false ∧ (z != 0) = true ∧ decide (0 < free) = false ∧ -z ≤ z ∧ pt = z) := by
        rcases hcase with ⟨h1, h2⟩ | ⟨h1, h2, h3⟩ | ⟨h1, h2, h3⟩
        · exact .inl ⟨by simpa using h1, by simpa using h1, decide_eq_true h2⟩
        · exact .inr (.inl ⟨by rw [beq_eq_false_iff_ne]; omega, by simp; omega, decide_eq_false (by omega), by omega, h3⟩)
        · exact .inr (.inr ⟨by rw [beq_eq_false_iff_ne]; omega, by simp; omega, decide_eq_false (by omega), by omega, h3⟩)
      clear hcase
      rcases hcase2 with ⟨g1, g2, g3⟩ | ⟨g1, g2, g3, g4, g5⟩ | ⟨g1, g2, g3, g4, g5⟩
      all_goals
        try rw [g5]
        try clear g5
        have g6 : (-z != -z) = false := by simp
        have g7 : (z != z) = false := by simp
        have HTD0 := HTD
        have HTI0 := HTI
        first
          | have g8 : ¬ (z < -z) := by omega
          | skip
        go_wp2_with (go_at_call 23; (refine (HDET.out _ (below_drewN (Below.refl _ _) _)).mono ?_); rintro e w4 ⟨rfl, HB4⟩)
        have HTD4 := Lib.hid (kept_tab.below HTD.out HB4.out)
        have HTI4 := Lib.hid (kept_ints.below HTI.out HB4.out)
        have HB40 := Lib.hid (HB3.out.trans (HB4.out.mono HB3.out.size))
        have HST := Lib.hid (ord_start w4 n)
        clear HTD HTI HTD0 HTI0 HB4 HB3 HC HDET
        generalize hb : w4.heap.size = b at *
        generalize (w4.alloc (.cells #[.int .i64 (n : Int), .slice none 0 0] 49)).alloc (.cells #[.int .i64 (n : Int), .slice none 0 0] 49) = w5 at *
        go_loopw [14] (fun z wr => ∃ i : Nat, i ≤ n ∧ z = .int .i64 i ∧ Hid (∃ vp vr, OrdSt b (b + 1) n w4 wr vp vr (relsTo D n i) (backTo D n i))) (fun z _ => n - (intOf z).toNat)
        case atStart => exact ⟨0, by omega, rfl, Lib.hid ⟨_, _, HST.out⟩⟩
        case round =>
          clear HST
          obtain ⟨i, hi, rfl, HQ⟩ := hrel
          have hi0 : (0 : Int) ≤ (i : Int) := Int.natCast_nonneg _
          by_cases hil : i < n
          · have hil' : (i : Int) < (n : Int) := by omega
            obtain ⟨wi, hwi⟩ : ∃ wi, wi = wr := ⟨_, rfl⟩
            have HQI : Hid (∃ vp vr, OrdSt b (b + 1) n w4 wi vp vr (relsTo D n i) (backTo D n i)) := Lib.hid (by rw [hwi]; exact HQ.out)
            have HB4I : Hid (Below w4.heap.size w4 wi) := Lib.hid (by obtain ⟨_, _, h⟩ := HQI.out; exact h.below)
            obtain ⟨A9, c9, e9, t1, t2, t3⟩ := LAt.open_ HTD4.out
            rw [HRD.out.1] at e9 t1 t3
            obtain ⟨rfl, -, rfl⟩ := Value.slice.inj e9
            obtain ⟨bo, oo, rfl, hcells⟩ := t3 (by omega)
            obtain ⟨u, hu, hI⟩ := hcells i hil
            obtain ⟨A1, c1, rfl, r1, r2, r3⟩ := hI.open_
            have hal : (D.getD i []).length = n := rect_row HRD.out hil
            rw [hal] at r1 r3 hu
            have HROW := Lib.hid r3
            have HU := Lib.hid hu
            have HBD : Hid (∀ k, -6 ≤ (D.getD i []).getD k 0 ∧ (D.getD i []).getD k 0 ≤ 6) := Lib.hid fun k => HC0.out i k
            have HWL : Hid (∀ k, (wordTo (D.getD i []) k).length ≤ 6 * k) := Lib.hid fun k => wordTo_len HBD.out k
            obtain ⟨row, hrow⟩ : ∃ row, row = D.getD i [] := ⟨_, rfl⟩
            have HREL : Hid (relsTo D n (i + 1) = relsTo D n i ++ [wordTo row n]) := Lib.hid (by rw [hrow]; exact relsTo_succ (by rw [HRD.out.1]; exact hil))
            have HBAK : Hid (backTo D n (i + 1) = negL (wordTo row n) :: backTo D n i) := Lib.hid (by rw [hrow]; exact backTo_succ (by rw [HRD.out.1]; exact hil))
            rw [← hrow] at HROW HBD HWL
            clear hcells hI r3 hal t3 e9 hu hrow
            go_wp2_with fail
            go_loopw [15, 16, 17] (fun za zb z wr => ∃ (k m : Nat) (Aa Ab : Option Addr) (ca cb : Nat), k ≤ n ∧ z = .int .i64 k ∧ za = .slice Aa m ca ∧ zb = .slice Ab m cb ∧ Hid (m = (wordTo row k).length ∧ WdSt wi wr (.slice Aa m ca) (.slice Ab m cb) (wordTo row k))) (fun _ _ z _ => n - (intOf z).toNat)
            case atStart => exact ⟨0, 0, none, none, 0, 0, by omega, rfl, rfl, rfl, Lib.hid ⟨rfl, WdSt.nil _ _ (by rw [hwi]; exact Below.refl _ _)⟩⟩
            case round =>
              clear hwi
              obtain ⟨k, m, Aa, Ab, ca, cb, hk, rfl, rfl, rfl, HW⟩ := hrel
              have hk0 : (0 : Int) ≤ (k : Int) := Int.natCast_nonneg _
              by_cases hkl : k < n
              · have hkl' : (k : Int) < (n : Int) := by omega
                obtain ⟨b1, o1, rfl, hcc⟩ := HROW.out (by omega)
                have hx := hcc k hkl
                have HX := Lib.hid hx
                have hbz := HBD.out k
                have HNX : Hid (wordTo row (k + 1) = wordTo row k ++ List.replicate (row.getD k 0).natAbs (letterOf (row.getD k 0) k)) := Lib.hid rfl
                have HL0 := HWL.out k
                obtain ⟨y, hy⟩ : ∃ y, y = row.getD k 0 := ⟨_, rfl⟩
                rw [← hy] at HX hbz HNX
                clear hcc hx hy
                obtain ⟨mx, hmx⟩ : ∃ mx, mx = y.natAbs := ⟨_, rfl⟩
                rw [← hmx] at HNX
                have hsg : (y < 0 ∧ y < -y ∧ (mx : Int) = -y ∧ letterOf y k = -((k : Int) + 1)) ∨ (¬ (y < 0) ∧ ¬ (y < -y) ∧ (mx : Int) = y ∧ letterOf y k = (k : Int) + 1) := by
                  by_cases h : y < 0
                  · exact .inl ⟨h, by omega, by omega, by unfold letterOf; rw [if_pos h]⟩
                  · exact .inr ⟨h, by omega, by omega, by unfold letterOf; rw [if_neg h]⟩
                have hmb : mx ≤ 6 := by omega
                clear hmx
                rcases hsg with ⟨s1, s2, s3, s4⟩ | ⟨s1, s2, s3, s4⟩
                all_goals
                  have HS4 := Lib.hid s4
                  have HS3 := Lib.hid s3
                  clear s3 s4
                  go_wp2_with fail
                  go_loopw [15, 16, 18] (fun za zb z wr => ∃ (c m : Nat) (Aa Ab : Option Addr) (ca cb : Nat), c ≤ mx ∧ z = .int .i64 c ∧ za = .slice Aa m ca ∧ zb = .slice Ab m cb ∧ Hid (m = (wordTo row k ++ List.replicate c (letterOf y k)).length ∧ WdSt wi wr (.slice Aa m ca) (.slice Ab m cb) (wordTo row k ++ List.replicate c (letterOf y k)))) (fun _ _ z _ => mx - (intOf z).toNat)
                  case atStart => exact ⟨0, m, Aa, Ab, ca, cb, by omega, rfl, rfl, rfl, Lib.hid (by rw [List.replicate_zero, List.append_nil]; exact HW.out)⟩
                  case round =>
                    clear HW
                    obtain ⟨c, m, Aa, Ab, ca, cb, hc, rfl, rfl, rfl, HW⟩ := hrel
                    have hc0 : (0 : Int) ≤ (c : Int) := Int.natCast_nonneg _
                    have hBw := HB4I.out.trans (HW.out.2.below.mono HB4I.out.size)
                    have hux := (hBw.cell (p := ⟨bo, oo + i, none⟩) (World.block_lt_of_cell? w4 _ HU.out)).trans HU.out
                    have hyx := (hBw.cell (p := ⟨b1, o1 + k, none⟩) (World.block_lt_of_cell? w4 _ HX.out)).trans HX.out
                    clear hBw
                    by_cases hcl : c < mx
                    · have hcl' : (c : Int) < (mx : Int) := by omega
                      have hml : m ≤ 30 := by
                        have h1 := HW.out.1
                        rw [List.length_append, List.length_replicate] at h1
                        omega
                      obtain ⟨A3, c3, w6, p1, A4, c4, w7, p2, hW2⟩ := HW.out.2.drew.push (letterOf y k) (by rw [← HW.out.1]; omega)
                      rw [← HW.out.1] at p1 p2 hW2
                      have HNW : Hid (m + 1 = (wordTo row k ++ List.replicate (c + 1) (letterOf y k)).length ∧ WdSt wi w7 (.slice A3 (m + 1) c3) (.slice A4 (m + 1) c4) (wordTo row k ++ List.replicate (c + 1) (letterOf y k))) := Lib.hid ⟨by rw [HW.out.1, List.length_append, List.length_append, List.length_replicate, List.length_replicate]; omega, by rw [List.replicate_succ', ← List.append_assoc]; exact hW2⟩
                      obtain ⟨kk, hkk⟩ : ∃ kk : Nat, (k : Int) + 1 = (kk : Int) := ⟨k + 1, by omega⟩
                      rw [HS4.out, hkk] at p1 p2
                      try rw [Int.neg_neg] at p2
                      have HP1 := Lib.hid p1
                      have HP2 := Lib.hid p2
                      have hkb : (kk : Int) ≤ 5 := by omega
                      have hkb0 : (0 : Int) ≤ (kk : Int) := Int.natCast_nonneg _
                      have hwk : IntKind.i64.wrap (kk : Int) = (kk : Int) := IntWalk.i64_in _ (by omega)
                      have hwk2 : IntKind.i64.wrap (-(kk : Int)) = -(kk : Int) := IntWalk.i64_in _ (by omega)
                      first
                        | have hcm : (c : Int) < -y := by have := HS3.out; omega
                        | have hcm : (c : Int) < y := by have := HS3.out; omega
                      clear p1 p2 hW2
                      go_wp2_with fail
                      go_region
                      go_wp2_with (first
                        | ((with_reducible refine wpList_sel 133 ?_); refine wpList_val rfl (r_app (.tmp 130) (.tmp 132) 50 rfl rfl rfl HP1.out) ?_)
                        | ((with_reducible refine wpList_sel 138 ?_); refine wpList_val rfl (r_app (.tmp 134) (.tmp 137) 50 rfl rfl rfl HP2.out) ?_))
                      go_roundw
                      case rel => exact ⟨c + 1, m + 1, A3, A4, c3, c4, by omega, by go_num, rfl, rfl, HNW⟩
                      case measure => simp [intOf]; omega
                    · obtain rfl : c = mx := by omega
                      have f1 : decide ((c : Int) < -y) = false := decide_eq_false (by have := HS3.out; omega)
                      have f2 : decide ((c : Int) < y) = false := decide_eq_false (by have := HS3.out; omega)
                      have HN3 : Hid (m = (wordTo row (k + 1)).length ∧ WdSt wi wr (.slice Aa m ca) (.slice Ab m cb) (wordTo row (k + 1))) := Lib.hid (by rw [HNX.out]; exact HW.out)
                      go_wp2_with fail
                      go_region
                      go_wp2_with fail
                      go_roundw
                      case rel => exact ⟨k + 1, m, Aa, Ab, ca, cb, by omega, by go_num, rfl, rfl, Lib.hid ⟨HN3.out.1, by first | exact HN3.out.2 | exact HN3.out.2.drew⟩⟩
                      case measure => simp [intOf]; omega
              · obtain rfl : k = n := by omega
                obtain ⟨vp, vr, hO⟩ := HQI.out
                have hK := hO.keep HW.out.2.below
                have hoa : OwnI w4.heap.size wr (.slice Aa m ca) (wordTo row k) := owns_base HW.out.2.a HB4I.out.size
                have hob : OwnI w4.heap.size wr (.slice Ab m cb) (negL (wordTo row k)) := owns_base HW.out.2.b HB4I.out.size
                have hpl : (relsTo D k i).length ≤ 1000 := by unfold relsTo; rw [List.length_map, List.length_take]; omega
                have hrl : (backTo D k i).length ≤ 1000 := by unfold backTo; rw [List.length_reverse, List.length_map, List.length_take]; omega
                obtain ⟨Ap, cp, rfl⟩ := hK.p.form
                obtain ⟨Ar, cr, rfl⟩ := hK.r.form
                obtain ⟨A5, c5, w8, p1, ⟨y1, p2⟩, p3, hO2, hown⟩ := hK.pushP rfl hoa hpl
                obtain ⟨A6, c6, w9, p4, ⟨y2, p5⟩, p6, hO3⟩ := hO2.consR rfl (hown _ _ hob) hrl
                obtain ⟨d1, d2, d3, d4, -, -⟩ := hK.cells
                obtain ⟨-, -, d5, d6, -, -⟩ := hO2.cells
                have d7 := (((Below.refl _ (w8.setCell ⟨b, 1, none⟩ (.slice A5 ((relsTo D k i).length + 1) c5))).alloc (Nat.le_refl _) (.cells #[.slice Ab m cb] 50)).cell (p := ⟨b + 1, 1, none⟩) (World.block_lt_of_cell? _ _ d5)).trans d5
                have hsz8 : (w8.setCell ⟨b, 1, none⟩ (.slice A5 ((relsTo D k i).length + 1) c5)).heap.size = w8.heap.size := by simp
                rw [hsz8] at p4
                clear hsz8
                have HP1 := Lib.hid p1
                have HP4 := Lib.hid p4
                have HN4 : Hid (∃ vp vr, OrdSt b (b + 1) k w4 (w9.setCell ⟨b + 1, 1, none⟩ (.slice A6 ((backTo D k i).length + 1) c6)) vp vr (relsTo D k (i + 1)) (backTo D k (i + 1))) := Lib.hid (by rw [HREL.out, HBAK.out]; exact ⟨_, _, hO3⟩)
                clear hO hK hoa hob hO2 hown hO3 p1 p4 hpl hrl
                generalize (relsTo D k i).length = pl at *
                generalize (backTo D k i).length = rl at *
                go_wp2_with (first
                  | ((with_reducible refine wpList_sel 143 ?_); refine wpList_val rfl (r_app (.tmp 140) (.tmp 142) 47 rfl rfl rfl HP1.out) ?_)
                  | ((with_reducible refine wpList_sel 149 ?_); refine wpList_val rfl (r_app (.tmp 146) (.tmp 148) 47 rfl rfl rfl HP4.out) ?_))
                go_roundw
                case rel => exact ⟨i + 1, by omega, by go_num, HN4⟩
                case measure => simp [intOf]; omega
          · obtain rfl : i = n := by omega
            obtain ⟨vp, vr, hO⟩ := HQ.out
            obtain ⟨Ap, cp, rfl⟩ := hO.p.form
            obtain ⟨Ar, cr, rfl⟩ := hO.r.form
            have hwk : ∀ x ∈ D, WordOk i (wordTo x i) := fun x hx => by
              obtain ⟨j, hj, rfl⟩ := List.getElem_of_mem hx
              exact wordOk_to (fun k => by
                have := HC0.out j k
                unfold ent at this
                rwa [List.getD_eq_getElem?_getD (l := D), List.getElem?_eq_getElem hj, Option.getD_some] at this) (by omega)
            have hpw : ∀ x ∈ relsTo D i i, WordOk i x := fun x hx => by
              obtain ⟨y, hy, rfl⟩ := List.mem_map.1 hx
              exact hwk y (List.mem_of_mem_take hy)
            have hrw : ∀ x ∈ backTo D i i, WordOk i x := fun x hx => by
              obtain ⟨y, hy, rfl⟩ := List.mem_map.1 (List.mem_reverse.1 hx)
              exact wordOk_neg (hwk y (List.mem_of_mem_take hy))
            have hfit : ∀ x, WordOk i x → Fits x := fun x h z hz => by have := h.2 z hz; omega
            have hpl : (relsTo D i i).length ≤ 100 := by unfold relsTo; rw [List.length_map, List.length_take]; omega
            have hrl : (backTo D i i).length ≤ 100 := by unfold backTo; rw [List.length_reverse, List.length_map, List.length_take]; omega
            have HAB := Lib.hid (abelian26_ok wr _ (relsTo D i i) i (hO.p.tab fun x hx => hfit x (hpw x hx)) hn1 (by omega) hpl hpw (t := t) (free := free) (er := 0) (by rw [rels_sums HRD.out]; exact HO.out.gr))
            have HBACK : Hid (∀ W t' f' e', Below wr.heap.size wr W → GrE i (turned D) t' f' e' → Calls Try.prog 26 #[.agg #[.int .i64 (i : Int), .slice Ar (backTo D i i).length cr]] W (GroupPost t' f' e' W)) := Lib.hid fun W t' f' e' hW hg => abelian26_ok W _ (backTo D i i) i ((hO.r.keep hW).tab fun x hx => hfit x (hrw x hx)) hn1 (by omega) hrl hrw (by rw [back_sums HRD.out]; exact hg)
            have HBXP := Lib.hid hO.bxp
            have HBXR := Lib.hid hO.bxr
            have HBW := Lib.hid (HB40.out.trans (hO.below.mono HB40.out.size))
            have htir := kept_ints.below HTI4.out hO.below
            rw [← HTL.out] at htir
            have HTIR := Lib.hid htir
            clear htir
            have hgr := HO.out.back
            have hff : (free == free) = true := by simp
            clear hO hwk hpw hrw hfit hpl hrl HQ HO HTD4 HTI4
            generalize (relsTo D i i).length = pl at *
            generalize (backTo D i i).length = rl at *
            rcases hgr with hg | hg
            all_goals
              have HBK := Lib.hid fun W hW => HBACK.out W _ _ _ hW hg
              clear hg HBACK
              go_wp2_with (first
                | ((with_reducible refine wpList_sel 152 ?_); refine wpList_val rfl (r_loadAt 49 (.tmp 12) _ _ rfl rfl (load49 HBXP.out)) ?_)
                | (go_at_call 26
                   (refine HAB.out.mono ?_)
                   rintro e w8 ⟨⟨vt, rfl, ht⟩, hb8⟩
                   obtain ⟨At1, ct1, rfl, -, -, -⟩ := id ht.open_
                   rw [← HTL.out] at ht ⊢
                   have HT8 := Lib.hid ht
                   have HB8 := Lib.hid hb8
                   have HBXR8 := Lib.hid ((hb8.block _ (Array.getElem?_eq_some_iff.1 HBXR.out).1).trans HBXR.out)
                   clear ht hb8 HAB)
                | ((with_reducible refine wpList_sel 158 ?_); refine wpList_val rfl (r_loadAt 49 (.tmp 13) _ _ rfl rfl (load49 HBXR8.out)) ?_)
                | (go_at_call 26
                   (refine (HBK.out w8 HB8.out).mono ?_)
                   rintro e w9 ⟨⟨vt2, rfl, ht⟩, hb9⟩
                   obtain ⟨At2, ct2, rfl, -, -, -⟩ := id ht.open_
                   try rw [← HTL.out] at ht ⊢
                   have HT9 := Lib.hid ht
                   have HT8' := Lib.hid (kept_ints.below HT8.out hb9)
                   have HTI9 := Lib.hid (kept_ints.below HTIR.out (HB8.out.trans (hb9.mono HB8.out.size)))
                   have HB9 := Lib.hid (HBW.out.trans ((HB8.out.trans (hb9.mono HB8.out.size)).mono HBW.out.size))
                   have hs1 := same17_any w9 _ _ _ _ HT8'.out HTI9.out
                   rw [decide_eq_true rfl] at hs1
                   have HS1 := Lib.hid hs1
                   clear ht hb9 hs1 HBK)
                | (go_at_call 17; (refine HS1.out.mono ?_); rintro e w10 ⟨rfl, q10, rfl⟩
                   have hs2 := same17_any (w9.drewN q10) _ _ _ _ (HT9.out.drewN q10) (HT8'.out.drewN q10)
                   try rw [decide_eq_true rfl] at hs2
                   have HS2 := Lib.hid hs2
                   clear HS1 hs2)
                | (go_at_call 17; (refine HS2.out.mono ?_); rintro e w11 ⟨rfl, q11, rfl⟩))
              go_ret
              exact ⟨rfl, by first | exact below_drewN HB9.out _ | exact below_drewN (below_drewN HB9.out _) _⟩
theorem orders6_any (w : World) (v1 : Value) (l : List Int) (x : Int) (h1 : IntsAt w v1 l) (hx : In64 x) : Calls Try.prog 6 #[v1, .int .i64 x] w (YesPost w) := by
  by_cases hl : 20 < l.length
  · exact orders_long w v1 l x h1 hl
  · obtain ⟨m, hm, hm3⟩ := picks4 x
    rcases orders_ex l (m + 1) (by omega) (by omega) with hE | ⟨t, free, hO⟩
    · exact orders_five w v1 l x h1 hx (by omega) (m + 1) m hm rfl (by omega) hE
    · exact orders_some w v1 l x h1 hx (by omega) (m + 1) m hm rfl (by omega) t free hO
end Go.Proofs
namespace Go.Proofs
open Go.RowKit Go.ChangeShapes Go.WideShapes Go.ChangeAt Go.Deep
section
variable {H : Type} {enc : TypeId × Value → H} {W : World}
theorem spot_none {a : Addr} {v : Value} (h : W.cell? (a.add 0) = some v) : a = ⟨a.block, a.off, none⟩ := by
  obtain ⟨b, o, s⟩ := a
  cases s with
  | none => rfl
  | some q =>
    exfalso
    have e : ({ block := b, off := o, spot := some q } : Addr).add 0 = { block := b, off := o, spot := some q } := by unfold Addr.add; rw [if_pos rfl]
    rw [e] at h
    unfold World.cell? at h
    simp only [Option.isSome_some, if_true] at h
    split at h <;> cases h
theorem wf_fits {x : Int} (h : (Lit.int .i64 x).wf = true) : -9223372036854775808 ≤ x ∧ x ≤ 9223372036854775807 := by
  simpa [Lit.wf, IntKind.min, IntKind.max, IntKind.signed, IntKind.bits] using h
theorem lat_of_trod {α : Type} {R : World → Value → α → Prop} {d : α} {t e : TypeId} {base fuel : Nat} {spare : Nat → Bool} {held : Bool} {v : Value} {x : DataW H × List MemPlace} (ht : Try.prog.underlying t = some (.slice e)) (hc : Try.prog.cellsOf e = 1)
    (hR : ∀ n u y, DataW.trod enc Try.prog W base spare held n e [u] = some y → ∃ z, R W u z) (h : DataW.trod enc Try.prog W base spare held fuel t [v] = some x) : ∃ xs, LAt R d W v xs := by
  rcases open_slice1 ht hc h with ⟨hv, -⟩ | ⟨a, len, cap, m, n, V, D, Pl, hv, -, hl, hm, hmm, -, hx⟩
  · obtain rfl : v = .slice none 0 0 := by simpa using hv
    exact ⟨[], [], ⟨none, 0, 0, rfl, rfl, Nat.le_refl _, by simp [maxLen], fun h => absurd h (by simp)⟩, rfl, fun i hi => absurd hi (by simp)⟩
  · obtain rfl : v = .slice (some a) len cap := by simpa using hv
    have hlm : len ≤ m := by rw [hmm]; split <;> omega
    have hz : ∀ i, i < len → ∃ z, R W (V i) z := fun i hi => hR n (V i) _ (hx i (by omega)).2
    have hf : ∃ f : Nat → α, ∀ i, i < len → R W (V i) (f i) := by
      have hz' : ∀ i, ∃ z, i < len → R W (V i) z := fun i => by
        by_cases hi : i < len
        · obtain ⟨z, hz⟩ := hz i hi; exact ⟨z, fun _ => hz⟩
        · exact ⟨d, fun h => absurd h hi⟩
      exact ⟨fun i => Classical.choose (hz' i), fun i => Classical.choose_spec (hz' i)⟩
    obtain ⟨f, hf⟩ := hf
    refine ⟨(List.range len).map f, (List.range len).map V, ⟨_, len, cap, rfl, by simp, hl, hm, fun h0 => ?_⟩, by simp, fun i hi => ?_⟩
    · have hsp := spot_none (hx 0 (by omega)).1
      refine ⟨a.block, a.off, by rw [← hsp], fun j u hu => ?_⟩
      have hj : j < len := by have := (List.getElem?_eq_some_iff.1 hu).1; simpa using this
      have := (hx j (by omega)).1
      rw [hsp, Addr.add_lit] at this
      rw [this, ← hu]
      simp [List.getElem?_range hj]
    · have hi' : i < len := by simpa using hi
      refine ⟨V i, by simp [List.getElem?_range hi'], ?_⟩
      have : ((List.range len).map f).getD i d = f i := by simp [List.getD_eq_getElem?_getD, List.getElem?_range hi']
      rw [this]
      exact hf i hi'
theorem intsT_of_trod {t : TypeId} (ht : Try.prog.underlying t = some (.slice 3)) {base fuel : Nat} {spare : Nat → Bool} {held : Bool} {v : Value} {x : DataW H × List MemPlace} (h : DataW.trod enc Try.prog W base spare held fuel t [v] = some x) : ∃ xs, IntsAt W v xs := by
  obtain ⟨xs, vs, hS, hl, he⟩ := lat_of_trod (R := fun _ u z => u = .int .i64 z ∧ (Lit.int .i64 z).wf = true) (d := 0) ht (by kernel_rfl) (fun n u y hy => by
    obtain ⟨m, hu, -, hw⟩ := DataW.trod_int Try.underlying3 hy
    exact ⟨m, by simpa using hu, hw⟩) h
  have hvs : vs = ints xs := by
    apply List.ext_getElem (by simpa [ints] using hl)
    intro i h1 h2
    obtain ⟨u, hu, rfl, -⟩ := he i (by omega)
    have hi : i < xs.length := by omega
    rw [List.getElem?_eq_getElem h1] at hu
    rw [Option.some.inj hu]
    simp [ints, List.getD_eq_getElem?_getD, hi]
  refine ⟨xs, hvs ▸ hS, fun z hz => ?_⟩
  obtain ⟨i, hi, rfl⟩ := List.getElem_of_mem hz
  obtain ⟨u, -, -, hw⟩ := he i hi
  have e : xs.getD i 0 = xs[i] := by simp [List.getD_eq_getElem?_getD, hi]
  rw [e] at hw
  exact wf_fits hw
theorem ints_of_trod {base fuel : Nat} {spare : Nat → Bool} {held : Bool} {v : Value} {x : DataW H × List MemPlace} (h : DataW.trod enc Try.prog W base spare held fuel 25 [v] = some x) : ∃ xs, IntsAt W v xs := intsT_of_trod Try.underlying25 h
end
end Go.Proofs
