/- The walk of consistent; valid and the methods of a nil or a zero group; Clone, list, the order of a live group; Plain: what Check computes; The contracts of collect.normal and cayleyref24.normal; The contracts of collect.Check and its closures; The contract of Check's fourth check: the product of the orders; The contract of Check's fifth check: generator by generator. -/
import Derived.Test.YtffkmchmakfcpaaOrCS15
import Derived.Ground.NamesProg
import Derived.Ground.Names2Prog
import Derived.Shelf.Slices.Clone
import Derived.Lib.OwnBridge
import Derived.Test.YtffkmchmakfcpaaOrCS13
import Derived.Test.YtffkmchmakfcpaaProg
namespace Go.Proofs
open Go.RowKit Go.Proofs.Pc
theorem overlaps_any (w : World) (br : Nat) : Calls Try.prog 93 #[.pointer (some ⟨br, 0, none⟩)] w fun e w' =>
    e = .returned (.func (.func 106) #[] #[.pointer (some ⟨w.heap.size, 0, none⟩)]) ∧ w' = w.alloc (.cells #[.pointer (some ⟨br, 0, none⟩)] 62) := by
  go_enter Try.func93, Try.ntmps93
  go_wp2
  exact bodyPost_ret (v := .func (.func 106) #[] #[.pointer (some ⟨w.heap.size, 0, none⟩)]) (results_tmp (t := 2) rfl _ _ _) rfl ⟨rfl, rfl⟩
section
variable {o : Oper} {rest : List Oper} {ops : Array Oper} {a : Act} {w w' : World} {n l : Nat} {Q : Exit → Act → World → Prop} {v : Value}
theorem wpListIn_selR (s : Nat) {F : Fence} {op : Op} {t : TypeId} {p : String} {af : Array Edge} {g : Option (Nat × Bool)} (h : wpListIn F n Try.prog ops Q (⟨some s, op, t, p, af, g⟩ :: rest) a w) : wpListIn F n Try.prog ops Q (⟨some s, op, t, p, af, g⟩ :: rest) a w := h
theorem wpListIn_valR (hg : o.guard = none) (hnc : ∀ c, o.op ≠ .defer c) (hrun : (execOp a.eval o).run Try.prog w = .ok (.value v) w') (h : wpListIn (Fence.wide.inRound l) n Try.prog ops Q rest (a.put o.dst v) w') : wpListIn (Fence.wide.inRound l) n Try.prog ops Q (o :: rest) a w :=
  wpListIn_plain hg fun _ hK => ⟨fun _ _ => trivial, by
    rw [show (Fence.wide.inRound l).round = some l from rfl, Oper.semAt_eq _ _ _ (fun c h => hnc c h), hrun]
    exact hK _ _ h⟩
theorem r_neq82 (x y : Operand) (xs ys : List Int) (ho : o.op = .binOp .neq 87 x y 87) (hx : a.eval x = .agg (vec xs).toArray) (hy : a.eval y = .agg (vec ys).toArray) :
    (execOp a.eval o).run Try.prog w = .ok (.value (.bool (!eq12 xs ys))) w := by
  have h1 := run_eqGuard_agg (P := Try.prog) w .neq 87 x y (vec xs).toArray (vec ys).toArray Try.eqGuardType87
  unfold execOp
  simp only [ho, hx, hy, Sem.run_bind, h1, neq82, Result.andThen_ok]
  rfl
end
theorem it_seq {P : PcD} (hv : Valid P) (n tb br : Nat) (w : World) (hr : RulesAt w br P) (ht : w.cell? ⟨tb, 0, none⟩ = some (.pointer (some ⟨br, 0, none⟩))) :
    SeqStopsK Fence.wide n Try.prog 106 #[.pointer (some ⟨tb, 0, none⟩)] encP KC (fun xs => xs = ovl P) (fun pre => Pre pre (ovl P)) ((ovl P).length + 1) w :=
  fun l J Jx W hb hJ hJx hY h0 => it_walk hv n l tb br J Jx W ((KC.of_below hb).rules hr) ((KC.of_below hb).cell ht) hJ hJx hY h0
/-- A box of one array. -/
theorem range_kept {W W' : World} {row : Option Nat} {b k : Nat} {cs : List Value} (h : W.rangeAt b k cs) (hg : W.grownBy W' row) (hrow : ∀ r, row = some r → ∃ o : Obj, W.heap[r]? = some o ∧ o.isCells = false) : W'.rangeAt b k cs :=
  fun j v hv => cell_kept (h j v hv) hg hrow
def bare48 (br c tb : Nat) (b1 b2 u v : Value) : Act := { tmps := #[.pointer (some ⟨br, 0, none⟩), undef, .pointer (some ⟨c, 0, none⟩), b1, b2, .pointer (some ⟨br, 0, none⟩), .func (.func 106) #[] #[.pointer (some ⟨tb, 0, none⟩)], u, v, undef, undef, undef], defers := [] }
set_option maxRecDepth 100000 in
set_option maxHeartbeats 4000000 in
theorem cons_in {P : PcD} (hv : Valid P) (w : World) (br : Nat) (hr : RulesAt w br P) :
    CallsIn Fence.wide 3 Try.prog 50 #[.pointer (some ⟨br, 0, none⟩)] w fun e w' => e = .returned (.bool (consB P)) ∧ Below w.heap.size w w' := by
  have HR := Lib.hid hr
  clear hr
  refine callsIn_of_wp_marks Try.func50 rfl trivial ?_ rfl
  simp only [Try.ntmps50, List.size_toArray, List.length_cons, List.length_nil, Nat.reduceAdd, Nat.reduceSub, Array.replicate_succ, Array.replicate_zero, List.push_toArray, List.append_toArray, List.nil_append, List.cons_append]
  gi_wp2_with (refine ⟨trivial, (callsIn_wide.2 (overlaps_any _ br)).mono ?_⟩; rintro e w' ⟨rfl, rfl⟩)
  obtain ⟨W0, hW0⟩ : ∃ W0, (w.alloc (.cells #[.bool false] 4)).alloc (.cells #[.pointer (some ⟨br, 0, none⟩)] 62) = W0 := ⟨_, rfl⟩
  have hs0 : W0.heap.size = w.heap.size + 2 := by rw [← hW0]; simp
  have hB0 : Boxed W0 w.heap.size 4 (.bool false) := by rw [← hW0]; exact (Boxed.new w _ _).alloc _
  have hB1 : Boxed W0 (w.heap.size + 1) 62 (.pointer (some ⟨br, 0, none⟩)) := by
    rw [← hW0]; have := Boxed.new (w.alloc (.cells #[.bool false] 4)) 62 (.pointer (some ⟨br, 0, none⟩)); rwa [World.size_alloc] at this
  have hBW : Below w.heap.size w W0 := by rw [← hW0]; exact ((Below.refl _ w).alloc (Nat.le_refl _) _).alloc (by simp) _
  rw [hW0]
  clear hW0
  have hst := @store_vec_new
  refine wpIn_rangeFunc_ownH rfl (Nat.le_of_ble_eq_true rfl) (gf := 106) (lb := #[.pointer (some ⟨w.heap.size + 1, 0, none⟩)]) rfl trivial (enters_of Try.func106 (by kernel_rfl) rfl)
    (it_seq hv 2 (w.heap.size + 1) br W0 ((KC.of_below hBW).rules HR.out) hB1.cell) (fun h k => KC.trans h k) (fun W l o o' _ h hc _ => KC.put h hc) (Below.refl _ _) (fun _ => rfl)
    (fun pre W => ((∀ p ∈ pre, eq12 p.1 p.2 = true) ∧ W.cell? ⟨w.heap.size, 0, none⟩ = some (.bool false) ∧ W.frozen? ⟨w.heap.size, 0, none⟩ = false) ∧ Below w.heap.size w W)
    (fun c pre W => (c = .ret ∧ (∃ p ∈ pre, eq12 p.1 p.2 = false) ∧ W.cell? ⟨w.heap.size, 0, none⟩ = some (.bool false)) ∧ Below w.heap.size w W)
    (OwnFrom.and (Own.from (fun s A B row hs hg hr => ⟨hs.1, cell_kept hs.2.1 hg hr, (frozen_kept hs.2.1 hg hr).trans hs.2.2⟩) _) (ownFrom_below (Nat.le_refl _) (by omega)))
    (fun c => OwnFrom.and (Own.from (fun s A B row hs hg hr => ⟨hs.1, hs.2.1, cell_kept hs.2.2 hg hr⟩) _) (ownFrom_below (Nat.le_refl _) (by omega)))
    ⟨⟨by simp, hB0.cell, hB0.frozen⟩, hBW⟩
    (fun x a' W => ∃ b1 b2 : Nat, a' = bare48 br w.heap.size (w.heap.size + 1) (.pointer (some ⟨b1, 0, none⟩)) (.pointer (some ⟨b2, 0, none⟩)) (.agg (vec x.1).toArray) (.agg (vec x.2).toArray) ∧ W.rangeAt b1 0 (vec x.1) ∧ W.rangeAt b2 0 (vec x.2))
    (fun x a' => Own.from (fun s A B row ⟨b1, b2, h1, h2, h3⟩ hg hr => ⟨b1, b2, h1, range_kept h2 hg hr, range_kept h3 hg hr⟩) _) ?assign ?body ?done ?stop
  case assign =>
    rintro l pre x W K hI hK
    have hgn := (World.grownBy_alloc W (.cells (vec x.1).toArray 87) none)
    have hfin := hK (bare48 br w.heap.size (w.heap.size + 1) (.pointer (some ⟨W.heap.size, 0, none⟩)) (.pointer (some ⟨W.heap.size + 1, 0, none⟩)) (.agg (vec x.1).toArray) (.agg (vec x.2).toArray)) ((W.alloc (.cells (vec x.1).toArray 87)).alloc (.cells (vec x.2).toArray 87))
      (KeepsFrom.trans (KeepsFrom.of_grownBy (World.grownBy_alloc W _ none) (fun j e => by cases e)) (KeepsFrom.of_grownBy (World.grownBy_alloc _ _ none) (fun j e => by cases e)))
      (((KC.refl W).alloc _).alloc _)
      ⟨⟨hI.1.1, cell_kept (cell_kept hI.1.2.1 (World.grownBy_alloc W _ none) (fun r e => by cases e)) (World.grownBy_alloc _ _ none) (fun r e => by cases e),
        (frozen_kept (cell_kept hI.1.2.1 (World.grownBy_alloc W _ none) (fun r e => by cases e)) (World.grownBy_alloc _ _ none) (fun r e => by cases e)).trans ((frozen_kept hI.1.2.1 (World.grownBy_alloc W _ none) (fun r e => by cases e)).trans hI.1.2.2)⟩,
        (hI.2.alloc hI.2.size _).alloc (by have := hI.2.size; simp; omega) _⟩
      ⟨_, _, rfl, range_kept (range_new W x.1) (World.grownBy_alloc _ _ none) (fun r e => by cases e), by have := range_new (W.alloc (.cells (vec x.1).toArray 87)) x.2; rwa [World.size_alloc] at this⟩
    clear hv HR hI hK hB0 hB1 hBW hgn
    have hst2 := store_vec_new (W.alloc (.cells (vec x.1).toArray 87)) x.2
    rw [World.size_alloc] at hst2
    simp only [encP]
    gi_wp2_with (rw [Oper.semAt_eq _ _ _ (fun c h => by cases h)]; go_simp)
    exact hfin
  case body =>
    rintro l pre x a' W hl hrec ⟨⟨hp, hcr, hfr⟩, hB⟩ ⟨b1, b2, rfl, h1, h2⟩ hlen
    have HP := Lib.hid hp
    have HB := Lib.hid hB
    have H1 := Lib.hid h1
    have H2 := Lib.hid h2
    clear hp hB h1 h2 hst hv HR hB0 hB1 hBW hlen hrec
    simp only [bare48]
    gi_wp2_with (first
      | (with_reducible refine wpListIn_selR 9 ?_; refine wpListIn_valR rfl (fun c h => by cases h) (r_load82 (.tmp 3) b1 0 x.1 rfl rfl H1.out) ?_)
      | (with_reducible refine wpListIn_selR 10 ?_; refine wpListIn_valR rfl (fun c h => by cases h) (r_load82 (.tmp 4) b2 0 x.2 rfl rfl H2.out) ?_)
      | (with_reducible refine wpListIn_selR 11 ?_; refine wpListIn_valR rfl (fun c h => by cases h) (r_neq82 (.tmp 9) (.tmp 10) x.1 x.2 rfl rfl rfl) ?_)
      | (rw [Oper.semAt_eq _ _ _ (fun c h => by cases h)]; go_simp))
    · rename_i hx
      have hx' : eq12 x.1 x.2 = false := by simpa using hx
      exact ⟨(KeepsOthers.setCell _ _ _).from _, ⟨rfl, ⟨x, by simp, hx'⟩, World.cell?_setCell_same' _ _ _ (by rw [hcr]; rfl)⟩, HB.out.setCell (p := ⟨w.heap.size, 0, none⟩) (by simp) _⟩
    · rename_i hx
      have hx' : eq12 x.1 x.2 = true := by simpa using hx
      exact ⟨(KeepsOthers.refl _).from _, KC.refl _, ⟨fun p hp => (List.mem_append.1 hp).elim (HP.out p) (fun e => by simp at e; subst e; exact hx'), hcr, hfr⟩, HB.out⟩
  case done =>
    rintro D xs W hD rfl ⟨⟨hp, hcr, hfr⟩, hB⟩ hK
    gi_wp2
    have hK' := (KeepsOthers.setCell W ⟨w.heap.size, 0, none⟩ (.bool true)).same D _ hK rfl
    refine ⟨by simp, .inl ⟨_, _, rfl, run_takeDeferred hK', ?_⟩⟩
    have hc5 := cell_kept (World.cell?_setCell_same' W ⟨w.heap.size, 0, none⟩ (.bool true) (by rw [hcr]; rfl)) (grownBy_putObj' _ D (.deferred none)) (fun r e => by cases e; exact ⟨_, hK', rfl⟩)
    have hc : consB P = true := List.all_eq_true.2 hp
    refine ⟨.bool true, ?_, by rw [hc], (hB.setCell (p := ⟨w.heap.size, 0, none⟩) (by simp) _).trans (belowK_b (w := w) (Nat.le_refl _) _ D _ _ (by omega) hK' rfl rfl)⟩
    simp [results, Try.f50, go_sem, hc5]
  case stop =>
    rintro D c pre W hD ⟨suf, hpre⟩ ⟨⟨rfl, ⟨p, hin, hpf⟩, hcr⟩, hB⟩ hK
    gi_wp2
    refine ⟨by simp, .inl ⟨_, _, rfl, run_takeDeferred hK, ?_⟩⟩
    have hc5 := cell_kept hcr (grownBy_putObj' _ D (.deferred none)) (fun r e => by cases e; exact ⟨_, hK, rfl⟩)
    have hc : consB P = false := by
      rw [Bool.eq_false_iff]
      intro h
      have := List.all_eq_true.1 h p (by rw [hpre]; exact List.mem_append_left _ hin)
      rw [hpf] at this
      cases this
    refine ⟨.bool false, ?_, by rw [hc], hB.trans (belowK_b (w := w) (Nat.le_refl _) W D _ _ (by omega) hK rfl rfl)⟩
    simp [results, Try.f50, go_sem, hc5]
theorem cons_any {P : PcD} (hv : Valid P) (w : World) (br : Nat) (hr : RulesAt w br P) :
    Calls Try.prog 50 #[.pointer (some ⟨br, 0, none⟩)] w fun e w' => e = .returned (.bool (consB P)) ∧ Below w.heap.size w w' :=
  callsIn_wide.1 (cons_in hv w br hr)
end Go.Proofs
namespace Go.Proofs
open Go.RowKit Go.Proofs.Pc
/-- The group's pointer: nil, or its first field is nil. -/
def Dead (w : World) (g : Option Addr) : Prop := g = none ∨ ∃ b, g = some ⟨b, 0, none⟩ ∧ w.cell? ⟨b, 0, none⟩ = some (.pointer none)
theorem Dead.below {w w' : World} {g : Option Addr} (h : Dead w g) (hb : Below w.heap.size w w') : Dead w' g := by
  rcases h with rfl | ⟨b, rfl, hc⟩
  · exact .inl rfl
  · exact .inr ⟨b, rfl, (hb.cell (p := ⟨b, 0, none⟩) (World.block_lt_of_cell? w ⟨b, 0, none⟩ hc)).trans hc⟩
/-- The group's pointer: its first field points to br. -/
def Live (w : World) (bg br : Nat) : Prop := w.cell? ⟨bg, 0, none⟩ = some (.pointer (some ⟨br, 0, none⟩))
set_option maxRecDepth 100000 in
theorem valid_live (w : World) (bg br : Nat) (h : Live w bg br) : Calls Try.prog 56 #[.pointer (some ⟨bg, 0, none⟩)] w fun e w' => e = .returned (.bool true) ∧ w' = w := by
  unfold Live at h
  go_enter Try.func56, Try.ntmps56
  go_wp2
  exact bodyPost_ret (results_tmp (t := 2) rfl _ _ _) rfl ⟨rfl, rfl⟩
theorem results_cell_tmp {fn : Func} {p q : Tmp} (h : fn.results = #[.cell p 87, .tmp q]) (tmps : Array Value) (w : World) (g : Nat) (xs : List Int) (u : Value)
    (hp : tmps.getD p undef = .pointer (some ⟨g, 0, none⟩)) (hq : tmps.getD q undef = u) (hg : w.heap[g]? = some (.cells (vec xs).toArray 87 (0, 0))) :
    (results fn tmps).run Try.prog w = .ok (.tuple #[.agg (vec xs).toArray, u]) w := by
  have hp' : tmps[p]?.getD undef = .pointer (some ⟨g, 0, none⟩) := by simpa using hp
  have hq' : tmps[q]?.getD undef = u := by simpa using hq
  simp [results, h, hp', hq', asAddr, run_loadVar_row w g 87 87 (vec xs).toArray (0, 0) _ hg Try.underlying87 rfl (by rw [size_vec]; exact info82)]
end Go.Proofs
namespace Go.Proofs
open Go.Shelf
def Try.laysClone_ren : Go.Shelf.Ren := ⟨fun | 15 => 94 | n => n, fun | 22 => 22 | 3 => 3 | 4 => 4 | n => n, fun | n => n⟩
theorem Try.laysClone : Go.Proofs.Lays2.n15 Try.prog Try.laysClone_ren := {
  mixed := by kernel_rfl
  f15 := Try.func94.trans (congrArg some (by kernel_rfl))
  t3 := Try.underlying3
  a3 := Try.isAgg3
  z3 := Try.sizeOf3
  v3 := Try.zeroValue3
  t4 := Try.underlying4
  a4 := Try.isAgg4
  z4 := Try.sizeOf4
  v4 := Try.zeroValue4
  t22 := Try.underlying22
  a22 := Try.isAgg22
  z22 := Try.sizeOf22
  v22 := Try.zeroValue22
  i3 := by kernel_rfl }
end Go.Proofs
namespace Go.Proofs
open Go.RowKit Go.Proofs.Pc Go.Shelf
theorem intsAt_of_owns {w : World} {base : Nat} {v : Value} {n : Nat} {xs : List Int} (h : w.ownsRow base 3 1 v n (xs.map (Value.int .i64))) (hv : v ≠ .slice none 0 0) (hf : Fits xs) : IntsAt w v xs := by
  obtain ⟨g, cap, rfl, _, _, hn, hm, hl, hH⟩ := Lib.holds_of_ownsRow h hv
  refine ⟨⟨_, n, cap, rfl, by simp [ints, hl], hn, hm, fun _ => ⟨g, 0, rfl, fun j u hu => ?_⟩⟩, hf⟩
  have hj : j < xs.length := by
    rcases Nat.lt_or_ge j xs.length with h | h
    · exact h
    · rw [List.getElem?_eq_none (by simpa [ints] using h)] at hu; cases hu
  have := (hH j (by simpa using hj)).1
  rw [this]
  simp [ints, hj] at hu
  simp [hj, hu]
theorem intsAt_nil {w : World} : IntsAt w (.slice none 0 0) [] := ⟨⟨none, 0, 0, rfl, rfl, Nat.le_refl _, by simp, fun h => absurd h (by simp)⟩, fun x hx => by cases hx⟩
theorem clone_any (w : World) (v : Value) (xs : List Int) (h : IntsAt w v xs) (hl : xs.length ≤ 1000) : Calls Try.prog 94 #[v] w fun e w' => ∃ u, e = .returned u ∧ IntsAt w' u xs ∧ Below w.heap.size w w' := by
  obtain ⟨A, cap, rfl, hcap, hmax, hr⟩ := h.open_
  rcases Nat.eq_zero_or_pos xs.length with h0 | h0
  · obtain rfl : xs = [] := List.length_eq_zero_iff.1 h0
    cases A with
    | none =>
      exact (Any.slices_Clone_int_nil Try.laysClone _ _ w).mono fun e w' ⟨he, hw⟩ => by subst hw; exact ⟨_, he, intsAt_nil, Below.refl _ _⟩
    | some a =>
      exact (Any.slices_Clone_int_zero Try.laysClone a cap w).mono fun e w' ⟨u, he, ho, hn, hb⟩ => ⟨u, he, intsAt_of_owns ho hn h.2, hb⟩
  · obtain ⟨b, off, rfl, hc⟩ := hr h0
    exact (Any.slices_Clone_int Try.laysClone b off xs.length cap xs w (Nat.le_refl _) (by omega) hc).mono fun e w' ⟨u, he, ho, hn, hb⟩ => ⟨u, he, intsAt_of_owns (by rwa [List.take_of_length_le (Nat.le_refl _)] at ho) hn h.2, hb⟩
end Go.Proofs
namespace Go.Proofs.Pc
def normAt (os xs : List Int) (above : Int) (k : Nat) : Bool := decide (0 ≤ xs.getD k 0) && (decide (xs.getD k 0 < os.getD k 0) && (!(decide ((k : Int) < above)) || decide (xs.getD k 0 ≤ 0)))
def normalB (os xs : List Int) (above : Int) : Bool := (List.range xs.length).all (normAt os xs above)
theorem normalB_false {os xs : List Int} {above : Int} {k : Nat} (hk : k < xs.length) (h : normAt os xs above k = false) : normalB os xs above = false := by
  unfold normalB
  rw [List.all_eq_false]
  exact ⟨k, by simpa using hk, by simp [h]⟩
theorem normalB_true {os xs : List Int} {above : Int} (h : ∀ k, k < xs.length → normAt os xs above k = true) : normalB os xs above = true := by
  unfold normalB
  rw [List.all_eq_true]
  intro k hk
  exact h k (by simpa using hk)
theorem normAt_iff (os xs : List Int) (above : Int) (k : Nat) : normAt os xs above k = true ↔ (0 ≤ xs.getD k 0 ∧ xs.getD k 0 < os.getD k 0 ∧ ((k : Int) < above → xs.getD k 0 ≤ 0)) := by
  unfold normAt
  simp only [Bool.and_eq_true, Bool.or_eq_true, Bool.not_eq_true', decide_eq_true_eq, decide_eq_false_iff_not]
  constructor
  · rintro ⟨h1, h2, h3⟩
    exact ⟨h1, h2, by omega⟩
  · rintro ⟨h1, h2, h3⟩
    exact ⟨h1, h2, by omega⟩
theorem normAt_iff' (os xs : List Int) (above : Int) (k : Nat) : normAt os xs above k = false ↔ ¬(0 ≤ xs.getD k 0 ∧ xs.getD k 0 < os.getD k 0 ∧ ((k : Int) < above → xs.getD k 0 ≤ 0)) := by
  rw [← normAt_iff]; simp
theorem normalB_iff (os xs : List Int) (above : Int) : normalB os xs above = true ↔ ∀ k, k < xs.length → normAt os xs above k = true := by
  unfold normalB
  rw [List.all_eq_true]
  exact ⟨fun h k hk => h k (by simpa using hk), fun h k hk => h k (by simpa using hk)⟩
/-- the first value that is not 0 -/
def firstNZ (f : Nat → Int) (n : Nat) : Int := foldTo (fun k a => if a = 0 then f k else a) n 0
theorem firstNZ_hit {f : Nat → Int} {k : Nat} (h0 : firstNZ f k = 0) (hk : f k ≠ 0) : ∀ (n : Nat), k < n → firstNZ f n = f k := by
  intro n hn
  induction n with
  | zero => omega
  | succ n ih =>
    show (if firstNZ f n = 0 then f n else firstNZ f n) = f k
    rcases Nat.lt_or_ge k n with h | h
    · rw [ih h, if_neg hk]
    · have : n = k := by omega
      subst this
      rw [h0, if_pos rfl]
theorem firstNZ_step {f : Nat → Int} {k : Nat} (h0 : firstNZ f k = 0) (hk : f k = 0) : firstNZ f (k + 1) = 0 := by
  show (if firstNZ f k = 0 then f k else firstNZ f k) = 0
  rw [h0, if_pos rfl, hk]
theorem firstNZ_zero {f : Nat → Int} : ∀ {n : Nat}, firstNZ f n = 0 → ∀ k, k < n → f k = 0 := by
  intro n
  induction n with
  | zero => intro _ k hk; omega
  | succ n ih =>
    intro h k hk
    have h' : (if firstNZ f n = 0 then f n else firstNZ f n) = 0 := h
    by_cases h0 : firstNZ f n = 0
    · rw [if_pos h0] at h'
      rcases Nat.lt_or_ge k n with h1 | h1
      · exact ih h0 k h1
      · have : k = n := by omega
        subst this; exact h'
    · rw [if_neg h0] at h'; exact absurd h' h0
/-- the first error and its place, counted from 1 -/
def firstP (f : Nat → Int) (n : Nat) : Int × Int := foldTo (fun k a => if a.1 = 0 then (if f k = 0 then (0, 0) else (f k, (k : Int) + 1)) else a) n (0, 0)
theorem firstP_hit {f : Nat → Int} {k : Nat} (h0 : firstP f k = (0, 0)) (hk : f k ≠ 0) : ∀ (n : Nat), k < n → firstP f n = (f k, (k : Int) + 1) := by
  intro n hn
  induction n with
  | zero => omega
  | succ n ih =>
    show (if (firstP f n).1 = 0 then (if f n = 0 then (0, 0) else (f n, (n : Int) + 1)) else firstP f n) = (f k, (k : Int) + 1)
    rcases Nat.lt_or_ge k n with h | h
    · rw [ih h, if_neg hk]
    · have : n = k := by omega
      subst this
      rw [h0, if_pos rfl, if_neg hk]
theorem firstP_step {f : Nat → Int} {k : Nat} (h0 : firstP f k = (0, 0)) (hk : f k = 0) : firstP f (k + 1) = (0, 0) := by
  show (if (firstP f k).1 = 0 then (if f k = 0 then (0, 0) else (f k, (k : Int) + 1)) else firstP f k) = (0, 0)
  rw [h0, if_pos rfl, if_pos hk]
theorem firstP_zero {f : Nat → Int} : ∀ {n : Nat}, (firstP f n).1 = 0 → ∀ k, k < n → f k = 0 := by
  intro n
  induction n with
  | zero => intro _ k hk; omega
  | succ n ih =>
    intro h k hk
    have h' : (if (firstP f n).1 = 0 then (if f n = 0 then (0, 0) else (f n, (n : Int) + 1)) else firstP f n).1 = 0 := h
    by_cases h0 : (firstP f n).1 = 0
    · rw [if_pos h0] at h'
      rcases Nat.lt_or_ge k n with h1 | h1
      · exact ih h0 k h1
      · have : k = n := by omega
        subst this
        by_cases h2 : f k = 0
        · exact h2
        · rw [if_neg h2] at h'; exact h'
    · rw [if_neg h0] at h'; exact absurd h' h0
def listErr (P : PcD) (l : List Int) (above : Int) : Int := if l.length = P.n then (if normalB P.orders l above then 0 else 2) else 3
def genErr (P : PcD) (i : Nat) : Int :=
  if listErr P (P.pow i) ((i : Int) + 1) = 0 then (if (P.conj.getD i []).length = i then firstNZ (fun k => listErr P (P.cj i k) ((k : Int) + 1)) i else 3) else listErr P (P.pow i) ((i : Int) + 1)
def ordErr (P : PcD) (i : Nat) : Int := if 2 ≤ P.ord i ∧ P.ord i ≤ 1000 then 0 else 2
def prod (P : PcD) (k : Nat) : Int := foldTo (fun k a => a * P.ord k) k 1
def overErr (P : PcD) (k : Nat) : Int := if prod P (k + 1) ≤ 50000 then 0 else 5
def lenErr (P : PcD) : Int := if P.n ≤ 12 then (if P.powers.length = P.n ∧ P.conj.length = P.n then 0 else 3) else 4
def orElse (a : Int × Int) (b : Int × Int) : Int × Int := if a.1 = 0 then b else a
def checkD (P : PcD) : Int × Int := orElse (lenErr P, 0) (orElse (firstP (ordErr P) P.n) (orElse (firstNZ (overErr P) P.n, 0) (firstP (genErr P) P.n)))
theorem firstP_ok {f : Nat → Int} : ∀ {n : Nat}, (firstP f n).1 = 0 → firstP f n = (0, 0) := by
  intro n
  induction n with
  | zero => intro _; rfl
  | succ n ih =>
    intro h
    have h' : (if (firstP f n).1 = 0 then (if f n = 0 then (0, 0) else (f n, (n : Int) + 1)) else firstP f n).1 = 0 := h
    show (if (firstP f n).1 = 0 then (if f n = 0 then (0, 0) else (f n, (n : Int) + 1)) else firstP f n) = (0, 0)
    by_cases h0 : (firstP f n).1 = 0
    · rw [if_pos h0] at h' ⊢
      by_cases h2 : f n = 0
      · rw [if_pos h2]
      · rw [if_neg h2] at h'; exact absurd h' h2
    · rw [if_neg h0] at h'; exact absurd h' h0
theorem checkD_ok {P : PcD} (h : (checkD P).1 = 0) : lenErr P = 0 ∧ firstP (ordErr P) P.n = (0, 0) ∧ firstNZ (overErr P) P.n = 0 ∧ firstP (genErr P) P.n = (0, 0) := by
  unfold checkD orElse at h
  by_cases h1 : lenErr P = 0
  · simp only [h1, if_pos] at h
    by_cases h2 : (firstP (ordErr P) P.n).1 = 0
    · simp only [h2, if_pos] at h
      by_cases h3 : firstNZ (overErr P) P.n = 0
      · simp only [h3, if_pos] at h
        exact ⟨h1, firstP_ok h2, h3, firstP_ok h⟩
      · simp only [h3, if_false] at h
    · simp only [h2, if_false] at h
  · simp only [h1, if_false] at h
theorem listErr_norm {P : PcD} {l : List Int} {a : Nat} (h : listErr P l ((a : Int) + 1) = 0) : Norm P l (a + 1) := by
  unfold listErr at h
  by_cases hl : l.length = P.n
  · rw [if_pos hl] at h
    by_cases hn : normalB P.orders l ((a : Int) + 1) = true
    · refine ⟨hl, fun k hk => ?_⟩
      have := (normAt_iff _ _ _ _).1 ((normalB_iff _ _ _).1 hn k (by omega))
      refine ⟨this.1, this.2.1, fun hka => ?_⟩
      have h3 := this.2.2 (by omega)
      omega
    · rw [if_neg hn] at h; cases h
  · rw [if_neg hl] at h; cases h
theorem valid_of_check {P : PcD} (h : (checkD P).1 = 0) : Valid P := by
  obtain ⟨h1, h2, h3, h4⟩ := checkD_ok h
  have hlen : P.n ≤ 12 ∧ P.powers.length = P.n ∧ P.conj.length = P.n := by
    unfold lenErr at h1
    by_cases a : P.n ≤ 12
    · rw [if_pos a] at h1
      by_cases b : P.powers.length = P.n ∧ P.conj.length = P.n
      · exact ⟨a, b⟩
      · rw [if_neg b] at h1; cases h1
    · rw [if_neg a] at h1; cases h1
  have hg : ∀ i, i < P.n → listErr P (P.pow i) ((i : Int) + 1) = 0 ∧ (P.conj.getD i []).length = i ∧ firstNZ (fun k => listErr P (P.cj i k) ((k : Int) + 1)) i = 0 := by
    intro i hi
    have := firstP_zero (f := genErr P) (by rw [h4]) i hi
    unfold genErr at this
    by_cases a : listErr P (P.pow i) ((i : Int) + 1) = 0
    · rw [if_pos a] at this
      by_cases b : (P.conj.getD i []).length = i
      · rw [if_pos b] at this; exact ⟨a, b, this⟩
      · rw [if_neg b] at this; cases this
    · rw [if_neg a] at this; exact absurd this a
  refine ⟨hlen.1, fun k hk => ?_, hlen.2.1, hlen.2.2, fun i hi => listErr_norm (hg i hi).1, fun j hj => (hg j hj).2.1, fun j hj i hi => ?_⟩
  · have := firstP_zero (f := ordErr P) (by rw [h2]) k hk
    unfold ordErr at this
    by_cases a : 2 ≤ P.ord k ∧ P.ord k ≤ 1000
    · exact a
    · rw [if_neg a] at this; cases this
  · exact listErr_norm (firstNZ_zero (hg j hj).2.2 i hi)
end Go.Proofs.Pc
namespace Go.Proofs
open Go.RowKit Go.Proofs.Pc
theorem below_drewN {B : Nat} {a w : World} (h : Below B a w) (n : Nat) : Below B a (w.drewN n) := ⟨h.os, h.tape, h.output, h.size, h.block⟩
set_option maxHeartbeats 400000 in
theorem normal_any (w : World) (vo vl : Value) (os xs : List Int) (above : Int) (ho : IntsAt w vo os) (hl : IntsAt w vl xs) (hlen : xs.length ≤ os.length) :
    Calls Try.prog 59 #[vo, vl, .int .i64 above] w fun e w' => e = .returned (.bool (normalB os xs above)) ∧ w = w' := by
  obtain ⟨A, ca, rfl, ha1, ha2, ha⟩ := ho.open_
  obtain ⟨B, cb, rfl, hb1, hb2, hb⟩ := hl.open_
  go_enter Try.func59, Try.ntmps59
  go_wp2_with fail
  go_loop [7, 8, 11] (fun s7 s8 i => ∃ k : Nat, k ≤ xs.length ∧ i = .int .i64 k ∧ ∀ j, j < k → normAt os xs above j = true) (fun _ _ i => xs.length - (intOf i).toNat)
  case atStart => exact ⟨0, Nat.zero_le _, rfl, fun j hj => absurd hj (by omega)⟩
  case round =>
    obtain ⟨k, hk, rfl, hall⟩ := hrel
    have HA := Lib.hid hall
    clear hall
    by_cases hlt : k < xs.length
    · obtain ⟨b, off, rfl, hcb⟩ := hb (by omega)
      obtain ⟨b', off', rfl, hca⟩ := ha (by omega)
      have c1 := hcb k hlt
      have c2 := hca k (by omega)
      have HT := Lib.hid (normAt_iff os xs above k)
      have HF := Lib.hid (normAt_iff' os xs above k)
      clear hcb hca
      generalize xs.getD k 0 = x at *
      generalize os.getD k 0 = y at *
      go_wp2_with fail
      all_goals first
        | (go_ret; exact ⟨ret_bool (normalB_false hlt (HF.out.2 (by omega))).symm, rfl⟩)
        | (go_round
           case rel => exact ⟨k + 1, by omega, by go_num, fun j hj => by
             rcases Nat.lt_or_ge j k with h | h
             · exact HA.out j h
             · obtain rfl : j = k := by omega
               exact HT.out.2 (by omega)⟩
           case measure => simp [intOf]; omega)
    · go_wp2_with fail
      go_ret
      have : k = xs.length := by omega
      subst this
      exact ⟨ret_bool (normalB_true HA.out).symm, rfl⟩
theorem normalRef_any (w : World) (vo vp vc vl : Value) (os xs : List Int) (above : Int) (ho : IntsAt w vo os) (hl : IntsAt w vl xs) (hlen : xs.length ≤ os.length) :
    Calls Try.prog 66 #[.agg #[vo, vp, vc], vl, .int .i64 above] w fun e w' => e = .returned (.bool (normalB os xs above)) ∧ Below w.heap.size w w' := by
  obtain ⟨A, ca, rfl, ha1, ha2, ha⟩ := ho.open_
  obtain ⟨B, cb, rfl, hb1, hb2, hb⟩ := hl.open_
  go_enter Try.func66, Try.ntmps66
  go_wp2_with fail
  go_loopw [7] (fun i wr => ∃ k : Nat, k ≤ xs.length ∧ i = .int .i64 k ∧ (∀ j, j < k → normAt os xs above j = true) ∧ wr.cell? ⟨w.heap.size, 0, none⟩ = some (.slice A os.length ca) ∧ Below w.heap.size w wr) (fun i _ => xs.length - (intOf i).toNat)
  case atStart => exact ⟨0, Nat.zero_le _, rfl, fun j hj => absurd hj (by omega), by simp, (Below.refl _ _).alloc (Nat.le_refl _) _⟩
  case round =>
    obtain ⟨k, hk, rfl, hall, hc0, hbel⟩ := hrel
    have HA := Lib.hid hall
    clear hall
    by_cases hlt : k < xs.length
    · obtain ⟨b, off, rfl, hcb⟩ := hb (by omega)
      obtain ⟨b', off', rfl, hca⟩ := ha (by omega)
      have c1 := hcb k hlt
      have c2 := hca k (by omega)
      have c1' := (hbel.cell (p := ⟨b, off + k, none⟩) (World.block_lt_of_cell? w _ c1)).trans c1
      have c2' := (hbel.cell (p := ⟨b', off' + k, none⟩) (World.block_lt_of_cell? w _ c2)).trans c2
      have HT := Lib.hid (normAt_iff os xs above k)
      have HF := Lib.hid (normAt_iff' os xs above k)
      have HB := Lib.hid hbel
      clear hcb hca c1 c2 hbel ha hb ho hl
      generalize xs.getD k 0 = x at *
      generalize os.getD k 0 = y at *
      have hk0 : (0 : Int) ≤ (k : Int) := Int.natCast_nonneg _
      have hk1 : (k : Int) < (xs.length : Int) := by omega
      have hk2 : (k : Int) < (os.length : Int) := by omega
      by_cases h1 : x < 0
      · have d1 : decide (x < 0) = true := by simpa using h1
        go_wp2_with fail
        go_quiet (fail)
        go_wp2_with fail
        go_ret
        exact ⟨ret_bool (normalB_false hlt (HF.out.2 (by omega))).symm, below_drewN HB.out _⟩
      have d1 : decide (x < 0) = false := by simpa using h1
      by_cases h2 : y ≤ x
      · have d2 : decide (y ≤ x) = true := by simpa using h2
        go_wp2_with fail
        go_quiet (fail)
        go_wp2_with fail
        go_ret
        exact ⟨ret_bool (normalB_false hlt (HF.out.2 (by omega))).symm, below_drewN HB.out _⟩
      have d2 : decide (y ≤ x) = false := by simpa using h2
      have rel : normAt os xs above k = true → ∀ j, j < k + 1 → normAt os xs above j = true := fun hx j hj => by
        rcases Nat.lt_or_ge j k with h | h
        · exact HA.out j h
        · obtain rfl : j = k := by omega
          exact hx
      have HR := Lib.hid rel
      clear rel
      by_cases h3 : (k : Int) < above
      · have d3 : decide ((k : Int) < above) = true := by simpa using h3
        by_cases h4 : x = 0
        · have d4 : (x != 0) = false := by simpa using h4
          have HX := Lib.hid h4
          clear h4
          go_wp2_with fail
          go_quiet (fail)
          go_wp2_with fail
          go_roundw
          case rel => exact ⟨k + 1, by omega, by go_num, HR.out (HT.out.2 (by have := HX.out; omega)), by assumption, below_drewN HB.out _⟩
          case measure => simp [intOf]; omega
        · have d4 : (x != 0) = true := by simpa using h4
          go_wp2_with fail
          go_quiet (fail)
          go_wp2_with fail
          go_ret
          exact ⟨ret_bool (normalB_false hlt (HF.out.2 (by omega))).symm, below_drewN HB.out _⟩
      · have d3 : decide ((k : Int) < above) = false := by simpa using h3
        go_wp2_with fail
        go_quiet (fail)
        go_wp2_with fail
        go_roundw
        case rel => exact ⟨k + 1, by omega, by go_num, HR.out (HT.out.2 (by omega)), by assumption, below_drewN HB.out _⟩
        case measure => simp [intOf]; omega
    · go_wp2_with fail
      go_ret
      have : k = xs.length := by omega
      subst this
      exact ⟨ret_bool (normalB_true HA.out).symm, hbel⟩
end Go.Proofs
namespace Go.Proofs
open Go.RowKit Go.Proofs.Pc
/-- The presentation p by value: its three slices read as P. -/
def PcAt (w : World) (v0 v1 v2 : Value) (P : PcD) : Prop := IntsAt w v0 P.orders ∧ Tab w v1 P.powers ∧ Tab3 w v2 P.conj
theorem PcAt.keep {w w' : World} {v0 v1 v2 : Value} {P : PcD} (h : PcAt w v0 v1 v2 P) (hk : ∀ k, k < w.heap.size → w'.heap[k]? = w.heap[k]?) : PcAt w' v0 v1 v2 P :=
  ⟨kept_ints _ _ _ _ hk h.1, kept_tab _ _ _ _ hk h.2.1, kept_tab3 _ _ _ _ hk h.2.2⟩
theorem PcAt.below {w w' : World} {v0 v1 v2 : Value} {P : PcD} (h : PcAt w v0 v1 v2 P) (hb : Below w.heap.size w w') : PcAt w' v0 v1 v2 P := h.keep hb.block
set_option maxHeartbeats 400000 in
theorem lists_any (w : World) (bn bp : Nat) (v0 vl : Value) (P : PcD) (l : List Int) (above : Int) (hn : w.cell? ⟨bn, 0, none⟩ = some (.int .i64 P.n)) (hp : w.cell? ⟨bp, 0, none⟩ = some v0)
    (h0 : IntsAt w v0 P.orders) (hl : IntsAt w vl l) :
    Calls Try.prog 58 #[vl, .int .i64 above, .pointer (some ⟨bn, 0, none⟩), .pointer (some ⟨bp, 0, none⟩)] w fun e w' => e = .returned (.int .i64 (listErr P l above)) ∧ w = w' := by
  have H0 := Lib.hid h0
  have HL := Lib.hid hl
  obtain ⟨A, ca, rfl, ha1, ha2, _⟩ := hl.open_
  clear h0 hl
  by_cases hlen : l.length = P.n
  · have d1 : (l.length != P.n) = false := by simpa using hlen
    have HE := Lib.hid hlen
    clear hlen
    cases hb : normalB P.orders l above
    · have HB := Lib.hid hb
      have hq : listErr P l above = 2 := by unfold listErr; rw [if_pos HE.out, HB.out]; rfl
      have HQ := Lib.hid hq
      clear hb hq
      go_enter Try.func58, Try.ntmps58
      go_wp2_with (go_at_call 59; refine (normal_any _ _ _ _ _ _ H0.out HL.out (by rw [HE.out]; exact Nat.le_refl _)).mono ?_; rintro e w' ⟨rfl, rfl⟩; rw [HB.out])
      go_ret
      exact ⟨ret_int HQ.out.symm, rfl⟩
    · have HB := Lib.hid hb
      have hq : listErr P l above = 0 := by unfold listErr; rw [if_pos HE.out, HB.out]; rfl
      have HQ := Lib.hid hq
      clear hb hq
      go_enter Try.func58, Try.ntmps58
      go_wp2_with (go_at_call 59; refine (normal_any _ _ _ _ _ _ H0.out HL.out (by rw [HE.out]; exact Nat.le_refl _)).mono ?_; rintro e w' ⟨rfl, rfl⟩; rw [HB.out])
      go_ret
      exact ⟨ret_int HQ.out.symm, rfl⟩
  · have d1 : (l.length != P.n) = true := by simpa using hlen
    have hq : listErr P l above = 3 := by unfold listErr; rw [if_neg hlen]
    have HQ := Lib.hid hq
    clear hq
    go_enter Try.func58, Try.ntmps58
    go_wp2_with fail
    go_ret
    exact ⟨ret_int HQ.out.symm, rfl⟩
set_option maxHeartbeats 400000 in
theorem chk2_any (w : World) (bn bp : Nat) (v0 v1 v2 : Value) (P : PcD) (hn : w.cell? ⟨bn, 0, none⟩ = some (.int .i64 P.n)) (hp1 : w.cell? ⟨bp, 1, none⟩ = some v1) (hp2 : w.cell? ⟨bp, 2, none⟩ = some v2) (hP : PcAt w v0 v1 v2 P) :
    Calls Try.prog 60 #[.pointer (some ⟨bn, 0, none⟩), .pointer (some ⟨bp, 0, none⟩)] w fun e w' => e = .returned (.tuple #[.int .i64 (lenErr P), .int .i64 0]) ∧ w = w' := by
  obtain ⟨A1, c1, rfl, ha1, ha2, _⟩ := hP.2.1.open_
  obtain ⟨A2, c2, rfl, hb1, hb2, _⟩ := hP.2.2.open_
  clear hP
  unfold lenErr
  by_cases h12 : P.n ≤ 12
  · rw [if_pos h12]
    by_cases h1 : P.powers.length = P.n
    · by_cases h2 : P.conj.length = P.n
      · rw [if_pos ⟨h1, h2⟩]
        have d1 : (P.powers.length != P.n) = false := by simpa using h1
        have d2 : (P.conj.length != P.n) = false := by simpa using h2
        clear h1 h2
        go_enter Try.func60, Try.ntmps60
        go_wp2_with fail
        go_ret2
        exact ⟨rfl, rfl⟩
      · rw [if_neg (fun h => h2 h.2)]
        have d1 : (P.powers.length != P.n) = false := by simpa using h1
        have d2 : (P.conj.length != P.n) = true := by simpa using h2
        clear h1 h2
        go_enter Try.func60, Try.ntmps60
        go_wp2_with fail
        go_ret2
        exact ⟨rfl, rfl⟩
    · rw [if_neg (fun h => h1 h.1)]
      have d1 : (P.powers.length != P.n) = true := by simpa using h1
      clear h1
      go_enter Try.func60, Try.ntmps60
      go_wp2_with fail
      go_ret2
      exact ⟨rfl, rfl⟩
  · rw [if_neg h12]
    go_enter Try.func60, Try.ntmps60
    go_wp2_with fail
    go_ret2
    exact ⟨rfl, rfl⟩
/-- the predicate of the relative orders -/
theorem ordPred_any (w : World) (x : Int) : Calls Try.prog 63 #[.int .i64 x] w fun e w' => e = .returned (.bool (decide (x < 2 ∨ 1000 < x))) ∧ w = w' := by
  by_cases h1 : x < 2
  · go_enter Try.func63, Try.ntmps63
    go_wp2_with fail
    go_ret
    exact ⟨ret_bool (by first | (simp; done) | (simp; omega)), rfl⟩
  · by_cases h2 : 1000 < x
    · go_enter Try.func63, Try.ntmps63
      go_wp2_with fail
      go_ret
      exact ⟨ret_bool (by first | (simp; done) | (simp; omega)), rfl⟩
    · go_enter Try.func63, Try.ntmps63
      go_wp2_with fail
      go_ret
      exact ⟨ret_bool (by first | (simp; done) | (simp; omega)), rfl⟩
def ordBad (l : List Int) (k : Nat) : Prop := l.getD k 0 < 2 ∨ 1000 < l.getD k 0
instance (l : List Int) (k : Nat) : Decidable (ordBad l k) := by unfold ordBad; infer_instance
def IdxSays (l : List Int) (r : Int) : Prop := ((r = -1 ∧ ∀ k, k < l.length → ¬ ordBad l k) ∨ (∃ k : Nat, r = k ∧ k < l.length ∧ ordBad l k ∧ ∀ j, j < k → ¬ ordBad l j))
/-- slices.IndexFunc on the relative orders: the first bad one, or -1. -/
theorem indexFunc_any (w : World) (v : Value) (l : List Int) (h : IntsAt w v l) :
    Calls Try.prog 62 #[v, .func (.func 63) #[] #[]] w fun e w' => (∃ r : Int, e = .returned (.int .i64 r) ∧ -1 ≤ r ∧ r ≤ 9223372036854775806 ∧ IdxSays l r) ∧ w = w' := by
  obtain ⟨A, ca, rfl, ha1, ha2, ha⟩ := h.open_
  clear h
  have HA := Lib.hid ha
  clear ha
  go_enter Try.func62, Try.ntmps62
  go_wp2_with fail
  go_loop [5, 8] (fun _ i => ∃ k : Nat, k ≤ l.length ∧ i = .int .i64 k ∧ ∀ j, j < k → ¬ ordBad l j) (fun _ i => l.length - (intOf i).toNat)
  case atStart => exact ⟨0, Nat.zero_le _, rfl, fun j hj => absurd hj (by omega)⟩
  case round =>
    obtain ⟨k, hk, rfl, hall⟩ := hrel
    have HL := Lib.hid hall
    clear hall
    by_cases hlt : k < l.length
    · obtain ⟨b, off, rfl, hc⟩ := HA.out (by omega)
      have c1 := hc k hlt
      have hbad : ordBad l k ↔ (l.getD k 0 < 2 ∨ 1000 < l.getD k 0) := Iff.rfl
      have HBad := Lib.hid hbad
      clear hc hbad
      generalize l.getD k 0 = x at *
      by_cases hx : x < 2 ∨ 1000 < x
      · have hd : decide (x < 2 ∨ 1000 < x) = true := decide_eq_true hx
        have HD := Lib.hid hd
        have HX := Lib.hid hx
        clear hd hx
        go_wp2_with (go_at_call 63; refine (ordPred_any _ x).mono ?_; rintro e w' ⟨rfl, rfl⟩; rw [HD.out])
        go_ret
        exact ⟨⟨k, rfl, by omega, by omega, .inr ⟨k, rfl, hlt, HBad.out.2 HX.out, HL.out⟩⟩, rfl⟩
      · have hd : decide (x < 2 ∨ 1000 < x) = false := decide_eq_false hx
        have HD := Lib.hid hd
        have HX := Lib.hid hx
        clear hd hx
        go_wp2_with (go_at_call 63; refine (ordPred_any _ x).mono ?_; rintro e w' ⟨rfl, rfl⟩; rw [HD.out])
        go_round
        case rel => exact ⟨k + 1, by omega, by go_num, fun j hj => by
          rcases Nat.lt_or_ge j k with h | h
          · exact HL.out j h
          · obtain rfl : j = k := by omega
            exact fun hh => HX.out (HBad.out.1 hh)⟩
        case measure => simp [intOf]; omega
    · go_wp2_with fail
      go_ret
      exact ⟨⟨-1, rfl, by omega, by omega, .inl ⟨rfl, fun j hj => HL.out j (by omega)⟩⟩, rfl⟩
theorem ordErr_bad {P : PcD} {k : Nat} : ordBad P.orders k ↔ ordErr P k ≠ 0 := by
  unfold ordErr ordBad PcD.ord
  by_cases h : 2 ≤ P.orders.getD k 0 ∧ P.orders.getD k 0 ≤ 1000
  · rw [if_pos h]; constructor <;> intro h' <;> omega
  · rw [if_neg h]; constructor <;> intro h' <;> omega
theorem chk3_any (w : World) (bp : Nat) (v0 : Value) (P : PcD) (hp : w.cell? ⟨bp, 0, none⟩ = some v0) (h0 : IntsAt w v0 P.orders) :
    Calls Try.prog 61 #[.pointer (some ⟨bp, 0, none⟩)] w fun e w' => e = .returned (.tuple #[.int .i64 (firstP (ordErr P) P.n).1, .int .i64 (firstP (ordErr P) P.n).2]) ∧ w = w' := by
  have H0 := Lib.hid h0
  clear h0
  refine Calls.mono (R := fun e w' => (∃ r : Int, e = .returned (.tuple #[.int .i64 (if 0 ≤ r then 2 else 0), .int .i64 (if 0 ≤ r then r + 1 else 0)]) ∧ IdxSays P.orders r) ∧ w = w') ?_ ?_
  · go_enter Try.func61, Try.ntmps61
    go_wp2_with (go_at_call 62; refine (indexFunc_any _ _ _ H0.out).mono ?_; rintro e w' ⟨⟨r, rfl, hr1, hr2, hr⟩, rfl⟩; have HR := Lib.hid hr; clear hr)
    · have hr0 : 0 ≤ r := by assumption
      go_ret2
      exact ⟨⟨r, by rw [if_pos hr0, if_pos hr0]; rfl, HR.out⟩, rfl⟩
    · have hr0 : ¬ 0 ≤ r := by omega
      go_ret2
      exact ⟨⟨r, by rw [if_neg hr0, if_neg hr0]; rfl, HR.out⟩, rfl⟩
  · rintro e w' ⟨⟨r, rfl, hr⟩, rfl⟩
    refine ⟨?_, rfl⟩
    rcases hr with ⟨rfl, h⟩ | ⟨k, rfl, hk, hb, h⟩
    · have : firstP (ordErr P) P.n = (0, 0) := by
        have : ∀ n, n ≤ P.n → firstP (ordErr P) n = (0, 0) := by
          intro n
          induction n with
          | zero => intro _; rfl
          | succ n ih => intro hn; exact firstP_step (ih (by omega)) (Decidable.byContradiction fun hh => h n (by show n < P.n; omega) (ordErr_bad.2 hh))
        exact this _ (Nat.le_refl _)
      rw [this]; rfl
    · have h0 : ∀ n, n ≤ k → firstP (ordErr P) n = (0, 0) := by
        intro n
        induction n with
        | zero => intro _; rfl
        | succ n ih => intro hn; exact firstP_step (ih (by omega)) (Decidable.byContradiction fun hh => h n (by omega) (ordErr_bad.2 hh))
      rw [firstP_hit (h0 k (Nat.le_refl _)) (ordErr_bad.1 hb) P.n hk]
      have : ordErr P k = 2 := by
        have := ordErr_bad.1 hb
        unfold ordErr at this ⊢
        by_cases hc : 2 ≤ P.ord k ∧ P.ord k ≤ 1000
        · rw [if_pos hc] at this; exact absurd rfl this
        · rw [if_neg hc]
      rw [this, if_pos (by omega), if_pos (by omega)]
end Go.Proofs
namespace Go.Proofs
open Go.RowKit Go.Proofs.Pc
theorem prod_pos {P : PcD} (ho : ∀ k, k < P.n → ordErr P k = 0) : ∀ k, k ≤ P.n → 1 ≤ prod P k
  | 0, _ => by simp [prod, foldTo]
  | k + 1, h => by
    have ih := prod_pos ho k (by omega)
    have h1 := ho k (by omega)
    have h2 : 2 ≤ P.ord k := by
      unfold ordErr at h1
      by_cases hc : 2 ≤ P.ord k ∧ P.ord k ≤ 1000
      · exact hc.1
      · rw [if_neg hc] at h1; cases h1
    show 1 ≤ prod P k * P.ord k
    have : 1 * 1 ≤ prod P k * P.ord k := Int.mul_le_mul ih (by omega) (by omega) (by omega)
    omega
theorem prod_le {P : PcD} {k : Nat} (h : firstNZ (overErr P) k = 0) : prod P k ≤ 50000 := by
  cases k with
  | zero => simp [prod, foldTo]
  | succ k =>
    have := firstNZ_zero h k (by omega)
    unfold overErr at this
    by_cases hc : prod P (k + 1) ≤ 50000
    · exact hc
    · rw [if_neg hc] at this; cases this
set_option maxHeartbeats 400000 in
theorem chk4_any (w0 w : World) (bp bo : Nat) (v0 : Value) (P : PcD) (hp : w.cell? ⟨bp, 0, none⟩ = some v0) (h0 : IntsAt w0 v0 P.orders) (hb : Below w0.heap.size w0 w) (hbo : w0.heap.size ≤ bo) (_hne : bp ≠ bo)
    (hc : w.cell? ⟨bo, 0, none⟩ = some (.int .i64 1)) (hf : w.frozen? ⟨bo, 0, none⟩ = false) (ho : ∀ k, k < P.n → ordErr P k = 0) :
    Calls Try.prog 64 #[.pointer (some ⟨bp, 0, none⟩), .pointer (some ⟨bo, 0, none⟩)] w fun e w' => e = .returned (.tuple #[.int .i64 (firstNZ (overErr P) P.n), .int .i64 0]) ∧ w.grownBy w' (some bo) := by
  obtain ⟨A, ca, rfl, ha1, ha2, ha⟩ := h0.open_
  have HA := Lib.hid ha
  have HO := Lib.hid ho
  clear ha h0 ho
  have hsz := hb.size
  go_enter Try.func64, Try.ntmps64
  go_wp2_with fail
  go_loopw [5, 9] (fun _ i wr => ∃ k : Nat, k ≤ P.n ∧ i = .int .i64 k ∧ wr.cell? ⟨bo, 0, none⟩ = some (.int .i64 (prod P k)) ∧ wr.frozen? ⟨bo, 0, none⟩ = false ∧ firstNZ (overErr P) k = 0 ∧ w.grownBy wr (some bo)) (fun _ i _ => P.n - (intOf i).toNat)
  case atStart => exact ⟨0, Nat.zero_le _, rfl, hc, hf, rfl, World.grownBy.refl _ _⟩
  case round =>
    obtain ⟨k, hk, rfl, hcr, hfr, hz, hg⟩ := hrel
    have hle := prod_le hz
    have hpos := prod_pos HO.out k hk
    have HZ := Lib.hid hz
    clear hz hc hf
    by_cases hlt : k < P.n
    · obtain ⟨b, off, rfl, hcl⟩ := HA.out (by show 0 < P.n; omega)
      have c0 := hcl k hlt
      have hbl := World.block_lt_of_cell? w0 _ c0
      have c1 : wr.cell? ⟨b, off + k, none⟩ = some (.int .i64 (P.ord k)) := by
        rw [World.cell?_of_block (w := w) (a := ⟨b, off + k, none⟩) (hg.block b (by simp at hbl; omega) (by simp at hbl ⊢; omega)), hb.cell (p := ⟨b, off + k, none⟩) hbl]
        exact c0
      have ho1 := HO.out k hlt
      have ho2 : 2 ≤ P.ord k ∧ P.ord k ≤ 1000 := by
        unfold ordErr at ho1
        by_cases hc : 2 ≤ P.ord k ∧ P.ord k ≤ 1000
        · exact hc
        · rw [if_neg hc] at ho1; cases ho1
      have hps : prod P (k + 1) = prod P k * P.ord k := rfl
      have hpm : prod P k * P.ord k ≤ 50000 * 1000 := Int.mul_le_mul hle ho2.2 (by omega) (by omega)
      have hpm0 : 1 * 1 ≤ prod P k * P.ord k := Int.mul_le_mul hpos (by omega) (by omega) (by omega)
      have HPS := Lib.hid hps
      have hov : overErr P k = if prod P k * P.ord k ≤ 50000 then 0 else 5 := rfl
      have HOV := Lib.hid hov
      clear hcl c0 ho1 hps hov
      have hwrap : IntKind.i64.wrap (prod P k * P.ord k) = prod P k * P.ord k := IntWalk.i64_in _ (by omega)
      generalize prod P k = a at *
      generalize P.ord k = o at *
      by_cases hbig : a * o ≤ 50000
      · have HBig := Lib.hid hbig
        go_wp2_with fail
        go_roundw
        case rel => exact ⟨k + 1, by omega, by go_num, by (rw [HPS.out]; exact World.cell?_setCell_same _ _ _ hcr), by (rw [World.frozen?_setCell]; exact hfr), firstNZ_step HZ.out (HOV.out.trans (if_pos HBig.out)), only_setCell hg (.inl rfl) _⟩
        case measure => simp [intOf]; omega
      · have HBig := Lib.hid hbig
        go_wp2_with fail
        go_ret2
        refine ⟨ret_pair ?_ rfl, only_setCell hg (.inl rfl) _⟩
        have h5 : overErr P k = 5 := HOV.out.trans (if_neg (Int.not_le.2 HBig.out))
        rw [firstNZ_hit HZ.out (by rw [h5]; decide) P.n hlt, h5]
    · have hkn : k = P.n := by omega
      subst hkn
      have hpl : P.orders.length = P.n := rfl
      go_wp2_with fail
      go_ret2
      exact ⟨ret_pair HZ.out.symm rfl, hg⟩
end Go.Proofs
namespace Go.Proofs
open Go.RowKit Go.Proofs.Pc
def listsF (bn bp : Nat) : Value := .func (.func 58) #[] #[.pointer (some ⟨bn, 0, none⟩), .pointer (some ⟨bp, 0, none⟩)]
set_option maxRecDepth 100000 in
set_option maxHeartbeats 1000000 in
theorem chk5_any (w : World) (bn bp bl : Nat) (v0 v1 v2 : Value) (P : PcD) (hn : w.cell? ⟨bn, 0, none⟩ = some (.int .i64 P.n)) (hl : w.cell? ⟨bl, 0, none⟩ = some (listsF bn bp))
    (hp0 : w.cell? ⟨bp, 0, none⟩ = some v0) (hp1 : w.cell? ⟨bp, 1, none⟩ = some v1) (hp2 : w.cell? ⟨bp, 2, none⟩ = some v2) (hP : PcAt w v0 v1 v2 P) (h12 : P.n ≤ 12) (hnp : P.powers.length = P.n) (hnc : P.conj.length = P.n) :
    Calls Try.prog 65 #[.pointer (some ⟨bn, 0, none⟩), .pointer (some ⟨bl, 0, none⟩), .pointer (some ⟨bp, 0, none⟩)] w fun e w' => e = .returned (.tuple #[.int .i64 (firstP (genErr P) P.n).1, .int .i64 (firstP (genErr P) P.n).2]) ∧ ∃ q, w' = w.drewN q := by
  have H0 := Lib.hid hP.1
  obtain ⟨A1, c1, rfl, ha1, ha2, ha⟩ := hP.2.1.open_
  obtain ⟨A2, c2, rfl, hb1, hb2, hb⟩ := hP.2.2.open_
  unfold listsF at hl
  have HA := Lib.hid ha
  have HB := Lib.hid hb
  have HNP := Lib.hid hnp
  have HNC := Lib.hid hnc
  clear ha hb hP hnp hnc
  go_enter Try.func65, Try.ntmps65
  go_wp2_with fail
  go_loopw [5, 11] (fun _ i wr => ∃ k : Nat, k ≤ P.n ∧ i = .int .i64 k ∧ firstP (genErr P) k = (0, 0) ∧ ∃ q, wr = w.drewN q) (fun _ i _ => P.n - (intOf i).toNat)
  case atStart => exact ⟨0, Nat.zero_le _, rfl, rfl, 0, rfl⟩
  case round =>
    obtain ⟨k, hk, rfl, hz, q, rfl⟩ := hrel
    have HZ := Lib.hid hz
    clear hz
    by_cases hlt : k < P.n
    · obtain ⟨b1, o1, rfl, hc1⟩ := HA.out (by rw [HNP.out]; omega)
      obtain ⟨b2, o2, rfl, hc2⟩ := HB.out (by rw [HNC.out]; omega)
      obtain ⟨u1, hu1, hr1⟩ := hc1 k (by rw [HNP.out]; omega)
      obtain ⟨u2, hu2, hr2⟩ := hc2 k (by rw [HNC.out]; omega)
      have HR1 : Hid (IntsAt w u1 (P.pow k)) := hr1
      obtain ⟨A3, c3, rfl, hd1, hd2, hd⟩ := hr2.open_
      have HD := Lib.hid hd
      clear hc1 hc2 hr1 hr2 hd
      have hkp : (k : Int) < (P.powers.length : Int) := by rw [HNP.out]; omega
      have hkc : (k : Int) < (P.conj.length : Int) := by rw [HNC.out]; omega
      have hk0 : (0 : Int) ≤ (k : Int) := Int.natCast_nonneg _
      have hge : genErr P k = if listErr P (P.pow k) ((k : Int) + 1) = 0 then (if (P.conj.getD k []).length = k then firstNZ (fun i => listErr P (P.cj k i) ((i : Int) + 1)) k else 3) else listErr P (P.pow k) ((k : Int) + 1) := rfl
      have HGE := Lib.hid hge
      clear hge
      generalize hrow : P.conj.getD k [] = row at *
      have HRow := Lib.hid hrow
      clear hrow
      by_cases hL : listErr P (P.pow k) ((k : Int) + 1) = 0
      · have d1 : (listErr P (P.pow k) ((k : Int) + 1) != 0) = false := by simp [hL]
        have HL := Lib.hid hL
        clear hL
        by_cases hml : row.length = k
        · have d2 : ((row.length : Int) != (k : Int)) = false := by simp; omega
          have d3 : (row.length != k) = false := by simp; omega
          have HM := Lib.hid hml
          have hcje : ∀ i, P.cj k i = row.getD i [] := fun i => by unfold PcD.cj; rw [HRow.out]
          have HCJ := Lib.hid hcje
          clear hml hcje
          go_wp2_with fail
          go_quiet ((go_at_call 58; exact quiet_add_left (lists_any _ bn bp v0 _ P (P.pow k) _ hn hp0 H0.out HR1.out)))
          go_wp2_with fail
          go_loopw [44] (fun i wr => ∃ j : Nat, j ≤ k ∧ i = .int .i64 j ∧ firstNZ (fun i => listErr P (P.cj k i) ((i : Int) + 1)) j = 0 ∧ ∃ q, wr = w.drewN q) (fun i _ => k - (intOf i).toNat)
          case atStart => exact ⟨0, Nat.zero_le _, rfl, rfl, _, rfl⟩
          case round =>
            obtain ⟨j, hj, rfl, hzj, qj, rfl⟩ := hrel
            have HZJ := Lib.hid hzj
            clear hzj
            by_cases hjl : j < k
            · obtain ⟨b3, o3, rfl, hc3⟩ := HD.out (by rw [HM.out]; omega)
              obtain ⟨u3', hu3, hr3⟩ := hc3 j (by rw [HM.out]; omega)
              have HR3 := Lib.hid hr3
              have hjm : (j : Int) < (row.length : Int) := by rw [HM.out]; omega
              have hj0 : (0 : Int) ≤ (j : Int) := Int.natCast_nonneg _
              have hcj : P.cj k j = row.getD j [] := HCJ.out j
              clear hc3 hr3
              generalize row.getD j [] = rj at *
              have HCj := Lib.hid hcj
              clear hcj
              by_cases hE : listErr P rj ((j : Int) + 1) = 0
              · have d4 : (listErr P (rj) ((j : Int) + 1) != 0) = false := by simp [hE]
                have HE := Lib.hid hE
                clear hE
                go_wp2_with (go_at_call 58; (refine (lists_any (w.drewN qj) bn bp v0 _ P rj _ hn hp0 H0.out HR3.out).mono ?_); rintro e w' ⟨rfl, rfl⟩)
                go_roundw
                case rel => exact ⟨j + 1, by omega, by go_num, firstNZ_step HZJ.out (by show listErr P (P.cj k j) _ = 0; rw [HCj.out]; exact HE.out), _, rfl⟩
                case measure => simp [intOf]; omega
              · have d4 : (listErr P (rj) ((j : Int) + 1) != 0) = true := by simp [hE]
                have HE := Lib.hid hE
                clear hE
                go_wp2_with (go_at_call 58; (refine (lists_any (w.drewN qj) bn bp v0 _ P rj _ hn hp0 H0.out HR3.out).mono ?_); rintro e w' ⟨rfl, rfl⟩)
                go_ret2
                have hx : firstNZ (fun i => listErr P (P.cj k i) ((i : Int) + 1)) k = listErr P (rj) ((j : Int) + 1) := by
                  rw [firstNZ_hit HZJ.out (by show listErr P (P.cj k j) _ ≠ 0; rw [HCj.out]; exact HE.out) k hjl]
                  show listErr P (P.cj k j) _ = _
                  rw [HCj.out]
                have hg : genErr P k = listErr P (rj) ((j : Int) + 1) := by rw [HGE.out, if_pos HL.out, if_pos HM.out, hx]
                have hf := firstP_hit HZ.out (by rw [hg]; exact HE.out) P.n hlt
                rw [hf, hg]
                exact ⟨rfl, _, rfl⟩
            · have hjk : j = k := by omega
              subst hjk
              have hge : row.length ≤ j := by rw [HM.out]; exact Nat.le_refl _
              go_wp2_with fail
              go_roundw
              case rel => exact ⟨j + 1, by omega, by go_num, firstP_step HZ.out (by rw [HGE.out, if_pos HL.out, if_pos HM.out, HZJ.out]), _, rfl⟩
              case measure => simp [intOf]; omega
        · have d2 : ((row.length : Int) != (k : Int)) = true := by simp; omega
          have d3 : (row.length != k) = true := by simp; omega
          have HM := Lib.hid hml
          clear hml
          go_wp2_with fail
          go_quiet ((go_at_call 58; exact quiet_add_left (lists_any _ bn bp v0 _ P (P.pow k) _ hn hp0 H0.out HR1.out)))
          go_wp2_with fail
          go_ret2
          have hg : genErr P k = 3 := by rw [HGE.out, if_pos HL.out, if_neg HM.out]
          have hf := firstP_hit HZ.out (by rw [hg]; decide) P.n hlt
          rw [hf, hg]
          exact ⟨rfl, _, rfl⟩
      · have d1 : (listErr P (P.pow k) ((k : Int) + 1) != 0) = true := by simp [hL]
        have HL := Lib.hid hL
        clear hL
        go_wp2_with fail
        go_quiet ((go_at_call 58; exact quiet_add_left (lists_any _ bn bp v0 _ P (P.pow k) _ hn hp0 H0.out HR1.out)))
        go_wp2_with fail
        go_ret2
        have hg : genErr P k = listErr P (P.pow k) ((k : Int) + 1) := by rw [HGE.out, if_neg HL.out]
        have hf := firstP_hit HZ.out (by rw [hg]; exact HL.out) P.n hlt
        rw [hf, hg]
        exact ⟨rfl, _, rfl⟩
    · have hkn : k = P.n := by omega
      subst hkn
      go_wp2_with fail
      go_ret2
      rw [HZ.out]
      exact ⟨rfl, _, rfl⟩
end Go.Proofs
