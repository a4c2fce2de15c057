/- The walk of consistent. -/
import Derived.Test.YtnhoiompdjabbaaCs0
namespace Go.Proofs
open Go.RowKit Go.Proofs.Pc

theorem overlaps_any (w : World) (br : Nat) : Calls Try.prog 83 #[.pointer (some ⟨br, 0, none⟩)] w fun e w' =>
    e = .returned (.func (.func 87) #[] #[.pointer (some ⟨w.heap.size, 0, none⟩)]) ∧ w' = w.alloc (.cells #[.pointer (some ⟨br, 0, none⟩)] 62) := by
  go_enter Try.func83, Try.ntmps83
  go_wp2
  exact bodyPost_ret (v := .func (.func 87) #[] #[.pointer (some ⟨w.heap.size, 0, none⟩)]) (results_tmp (t := 2) rfl _ _ _) rfl ⟨rfl, rfl⟩

section
variable {o : Oper} {rest : List Oper} {ops : Array Oper} {a : Act} {w w' : World} {n l : Nat} {Q : Exit → Act → World → Prop} {v : Value}
theorem wpListIn_selR (s : Nat) {F : Fence} {op : Op} {t : TypeId} {p : String} {af : Array Edge} {g : Option (Nat × Bool)} (h : wpListIn F n Try.prog ops Q (⟨some s, op, t, p, af, g⟩ :: rest) a w) : wpListIn F n Try.prog ops Q (⟨some s, op, t, p, af, g⟩ :: rest) a w := h
theorem wpListIn_valR (hg : o.guard = none) (hnc : ∀ c, o.op ≠ .defer c) (hrun : (execOp a.eval o).run Try.prog w = .ok (.value v) w') (h : wpListIn (Fence.wide.inRound l) n Try.prog ops Q rest (a.put o.dst v) w') : wpListIn (Fence.wide.inRound l) n Try.prog ops Q (o :: rest) a w :=
  wpListIn_plain hg fun _ hK => ⟨fun _ _ => trivial, by
    rw [show (Fence.wide.inRound l).round = some l from rfl, Oper.semAt_eq _ _ _ (fun c h => hnc c h), hrun]
    exact hK _ _ h⟩
theorem r_neq82 (x y : Operand) (xs ys : List Int) (ho : o.op = .binOp .neq 82 x y 82) (hx : a.eval x = .agg (vec xs).toArray) (hy : a.eval y = .agg (vec ys).toArray) :
    (execOp a.eval o).run Try.prog w = .ok (.value (.bool (!eq12 xs ys))) w := by
  have h1 := run_eqGuard_agg (P := Try.prog) w .neq 82 x y (vec xs).toArray (vec ys).toArray Try.eqGuardType82
  unfold execOp
  simp only [ho, hx, hy, Sem.run_bind, h1, neq82, Result.andThen_ok]
  rfl
end

theorem it_seq {P : PcD} (hv : Valid P) (n tb br : Nat) (w : World) (hr : RulesAt w br P) (ht : w.cell? ⟨tb, 0, none⟩ = some (.pointer (some ⟨br, 0, none⟩))) :
    SeqStopsK Fence.wide n Try.prog 87 #[.pointer (some ⟨tb, 0, none⟩)] encP KC (fun xs => xs = ovl P) (fun pre => Pre pre (ovl P)) ((ovl P).length + 1) w :=
  fun l J Jx W hb hJ hJx hY h0 => it_walk hv n l tb br J Jx W ((KC.of_below hb).rules hr) ((KC.of_below hb).cell ht) hJ hJx hY h0

/-- A box of one array. -/
theorem range_kept {W W' : World} {row : Option Nat} {b k : Nat} {cs : List Value} (h : W.rangeAt b k cs) (hg : W.grownBy W' row) (hrow : ∀ r, row = some r → ∃ o : Obj, W.heap[r]? = some o ∧ o.isCells = false) : W'.rangeAt b k cs :=
  fun j v hv => cell_kept (h j v hv) hg hrow

def bare48 (br c tb : Nat) (b1 b2 u v : Value) : Act := { tmps := #[.pointer (some ⟨br, 0, none⟩), undef, .pointer (some ⟨c, 0, none⟩), b1, b2, .pointer (some ⟨br, 0, none⟩), .func (.func 87) #[] #[.pointer (some ⟨tb, 0, none⟩)], u, v, undef, undef, undef], defers := [] }

set_option maxRecDepth 100000 in
set_option maxHeartbeats 4000000 in
theorem cons_in {P : PcD} (hv : Valid P) (w : World) (br : Nat) (hr : RulesAt w br P) :
    CallsIn Fence.wide 3 Try.prog 48 #[.pointer (some ⟨br, 0, none⟩)] w fun e w' => e = .returned (.bool (consB P)) ∧ Below w.heap.size w w' := by
  have HR := Lib.hid hr
  clear hr
  refine callsIn_of_wp_marks Try.func48 rfl trivial ?_ rfl
  simp only [Try.ntmps48, List.size_toArray, List.length_cons, List.length_nil, Nat.reduceAdd, Nat.reduceSub, Array.replicate_succ, Array.replicate_zero, List.push_toArray, List.append_toArray, List.nil_append, List.cons_append]
  gi_wp2_with (refine ⟨trivial, (callsIn_wide.2 (overlaps_any _ br)).mono ?_⟩; rintro e w' ⟨rfl, rfl⟩)
  obtain ⟨W0, hW0⟩ : ∃ W0, (w.alloc (.cells #[.bool false] 4)).alloc (.cells #[.pointer (some ⟨br, 0, none⟩)] 62) = W0 := ⟨_, rfl⟩
  have hs0 : W0.heap.size = w.heap.size + 2 := by rw [← hW0]; simp
  have hB0 : Boxed W0 w.heap.size 4 (.bool false) := by rw [← hW0]; exact (Boxed.new w _ _).alloc _
  have hB1 : Boxed W0 (w.heap.size + 1) 62 (.pointer (some ⟨br, 0, none⟩)) := by
    rw [← hW0]; have := Boxed.new (w.alloc (.cells #[.bool false] 4)) 62 (.pointer (some ⟨br, 0, none⟩)); rwa [World.size_alloc] at this
  have hBW : Below w.heap.size w W0 := by rw [← hW0]; exact ((Below.refl _ w).alloc (Nat.le_refl _) _).alloc (by simp) _
  rw [hW0]
  clear hW0
  have hst := @store_vec_new
  refine wpIn_rangeFunc_ownH rfl (Nat.le_of_ble_eq_true rfl) (gf := 87) (lb := #[.pointer (some ⟨w.heap.size + 1, 0, none⟩)]) rfl trivial (enters_of Try.func87 (by kernel_rfl) rfl)
    (it_seq hv 2 (w.heap.size + 1) br W0 ((KC.of_below hBW).rules HR.out) hB1.cell) (fun h k => KC.trans h k) (fun W l o o' _ h hc _ => KC.put h hc) (Below.refl _ _) (fun _ => rfl)
    (fun pre W => ((∀ p ∈ pre, eq12 p.1 p.2 = true) ∧ W.cell? ⟨w.heap.size, 0, none⟩ = some (.bool false) ∧ W.frozen? ⟨w.heap.size, 0, none⟩ = false) ∧ Below w.heap.size w W)
    (fun c pre W => (c = .ret ∧ (∃ p ∈ pre, eq12 p.1 p.2 = false) ∧ W.cell? ⟨w.heap.size, 0, none⟩ = some (.bool false)) ∧ Below w.heap.size w W)
    (OwnFrom.and (Own.from (fun s A B row hs hg hr => ⟨hs.1, cell_kept hs.2.1 hg hr, (frozen_kept hs.2.1 hg hr).trans hs.2.2⟩) _) (ownFrom_below (Nat.le_refl _) (by omega)))
    (fun c => OwnFrom.and (Own.from (fun s A B row hs hg hr => ⟨hs.1, hs.2.1, cell_kept hs.2.2 hg hr⟩) _) (ownFrom_below (Nat.le_refl _) (by omega)))
    ⟨⟨by simp, hB0.cell, hB0.frozen⟩, hBW⟩
    (fun x a' W => ∃ b1 b2 : Nat, a' = bare48 br w.heap.size (w.heap.size + 1) (.pointer (some ⟨b1, 0, none⟩)) (.pointer (some ⟨b2, 0, none⟩)) (.agg (vec x.1).toArray) (.agg (vec x.2).toArray) ∧ W.rangeAt b1 0 (vec x.1) ∧ W.rangeAt b2 0 (vec x.2))
    (fun x a' => Own.from (fun s A B row ⟨b1, b2, h1, h2, h3⟩ hg hr => ⟨b1, b2, h1, range_kept h2 hg hr, range_kept h3 hg hr⟩) _) ?assign ?body ?done ?stop
  case assign =>
    rintro l pre x W K hI hK
    have hgn := (World.grownBy_alloc W (.cells (vec x.1).toArray 82) none)
    have hfin := hK (bare48 br w.heap.size (w.heap.size + 1) (.pointer (some ⟨W.heap.size, 0, none⟩)) (.pointer (some ⟨W.heap.size + 1, 0, none⟩)) (.agg (vec x.1).toArray) (.agg (vec x.2).toArray)) ((W.alloc (.cells (vec x.1).toArray 82)).alloc (.cells (vec x.2).toArray 82))
      (KeepsFrom.trans (KeepsFrom.of_grownBy (World.grownBy_alloc W _ none) (fun j e => by cases e)) (KeepsFrom.of_grownBy (World.grownBy_alloc _ _ none) (fun j e => by cases e)))
      (((KC.refl W).alloc _).alloc _)
      ⟨⟨hI.1.1, cell_kept (cell_kept hI.1.2.1 (World.grownBy_alloc W _ none) (fun r e => by cases e)) (World.grownBy_alloc _ _ none) (fun r e => by cases e),
        (frozen_kept (cell_kept hI.1.2.1 (World.grownBy_alloc W _ none) (fun r e => by cases e)) (World.grownBy_alloc _ _ none) (fun r e => by cases e)).trans ((frozen_kept hI.1.2.1 (World.grownBy_alloc W _ none) (fun r e => by cases e)).trans hI.1.2.2)⟩,
        (hI.2.alloc hI.2.size _).alloc (by have := hI.2.size; simp; omega) _⟩
      ⟨_, _, rfl, range_kept (range_new W x.1) (World.grownBy_alloc _ _ none) (fun r e => by cases e), by have := range_new (W.alloc (.cells (vec x.1).toArray 82)) x.2; rwa [World.size_alloc] at this⟩
    clear hv HR hI hK hB0 hB1 hBW hgn
    have hst2 := store_vec_new (W.alloc (.cells (vec x.1).toArray 82)) x.2
    rw [World.size_alloc] at hst2
    simp only [encP]
    gi_wp2_with (rw [Oper.semAt_eq _ _ _ (fun c h => by cases h)]; go_simp)
    exact hfin
  case body =>
    rintro l pre x a' W hl hrec ⟨⟨hp, hcr, hfr⟩, hB⟩ ⟨b1, b2, rfl, h1, h2⟩ hlen
    have HP := Lib.hid hp
    have HB := Lib.hid hB
    have H1 := Lib.hid h1
    have H2 := Lib.hid h2
    clear hp hB h1 h2 hst hv HR hB0 hB1 hBW hlen hrec
    simp only [bare48]
    gi_wp2_with (first
      | (with_reducible refine wpListIn_selR 9 ?_; refine wpListIn_valR rfl (fun c h => by cases h) (r_load82 (.tmp 3) b1 0 x.1 rfl rfl H1.out) ?_)
      | (with_reducible refine wpListIn_selR 10 ?_; refine wpListIn_valR rfl (fun c h => by cases h) (r_load82 (.tmp 4) b2 0 x.2 rfl rfl H2.out) ?_)
      | (with_reducible refine wpListIn_selR 11 ?_; refine wpListIn_valR rfl (fun c h => by cases h) (r_neq82 (.tmp 9) (.tmp 10) x.1 x.2 rfl rfl rfl) ?_)
      | (rw [Oper.semAt_eq _ _ _ (fun c h => by cases h)]; go_simp))
    · rename_i hx
      have hx' : eq12 x.1 x.2 = false := by simpa using hx
      exact ⟨(KeepsOthers.setCell _ _ _).from _, ⟨rfl, ⟨x, by simp, hx'⟩, World.cell?_setCell_same' _ _ _ (by rw [hcr]; rfl)⟩, HB.out.setCell (p := ⟨w.heap.size, 0, none⟩) (by simp) _⟩
    · rename_i hx
      have hx' : eq12 x.1 x.2 = true := by simpa using hx
      exact ⟨(KeepsOthers.refl _).from _, KC.refl _, ⟨fun p hp => (List.mem_append.1 hp).elim (HP.out p) (fun e => by simp at e; subst e; exact hx'), hcr, hfr⟩, HB.out⟩
  case done =>
    rintro D xs W hD rfl ⟨⟨hp, hcr, hfr⟩, hB⟩ hK
    gi_wp2
    have hK' := (KeepsOthers.setCell W ⟨w.heap.size, 0, none⟩ (.bool true)).same D _ hK rfl
    refine ⟨by simp, .inl ⟨_, _, rfl, run_takeDeferred hK', ?_⟩⟩
    have hc5 := cell_kept (World.cell?_setCell_same' W ⟨w.heap.size, 0, none⟩ (.bool true) (by rw [hcr]; rfl)) (grownBy_putObj' _ D (.deferred none)) (fun r e => by cases e; exact ⟨_, hK', rfl⟩)
    have hc : consB P = true := List.all_eq_true.2 hp
    refine ⟨.bool true, ?_, by rw [hc], (hB.setCell (p := ⟨w.heap.size, 0, none⟩) (by simp) _).trans (belowK_b (w := w) (Nat.le_refl _) _ D _ _ (by omega) hK' rfl rfl)⟩
    simp [results, Try.f48, go_sem, hc5]
  case stop =>
    rintro D c pre W hD ⟨suf, hpre⟩ ⟨⟨rfl, ⟨p, hin, hpf⟩, hcr⟩, hB⟩ hK
    gi_wp2
    refine ⟨by simp, .inl ⟨_, _, rfl, run_takeDeferred hK, ?_⟩⟩
    have hc5 := cell_kept hcr (grownBy_putObj' _ D (.deferred none)) (fun r e => by cases e; exact ⟨_, hK, rfl⟩)
    have hc : consB P = false := by
      rw [Bool.eq_false_iff]
      intro h
      have := List.all_eq_true.1 h p (by rw [hpre]; exact List.mem_append_left _ hin)
      rw [hpf] at this
      cases this
    refine ⟨.bool false, ?_, by rw [hc], hB.trans (belowK_b (w := w) (Nat.le_refl _) W D _ _ (by omega) hK rfl rfl)⟩
    simp [results, Try.f48, go_sem, hc5]

theorem cons_any {P : PcD} (hv : Valid P) (w : World) (br : Nat) (hr : RulesAt w br P) :
    Calls Try.prog 48 #[.pointer (some ⟨br, 0, none⟩)] w fun e w' => e = .returned (.bool (consB P)) ∧ Below w.heap.size w w' :=
  callsIn_wide.1 (cons_in hv w br hr)
end Go.Proofs
