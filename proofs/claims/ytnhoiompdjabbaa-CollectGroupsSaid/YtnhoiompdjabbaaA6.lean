/- Two arrays of twelve numbers compared; The walk of consistent; valid and the methods of a nil or a zero group; Clone, list, the order of a live group; The contract of Check's fifth check: generator by generator; The contract of collect.Check. -/
import Derived.Test.YtnhoiompdjabbaaA5
import Derived.ChangeKeysEq
import Derived.RangeFuncNested
import Derived.Ground.NamesProg
import Derived.Ground.Names2Prog
import Derived.Shelf.Slices.Clone
import Derived.Lib.OwnBridge
import Derived.Test.YtnhoiompdjabbaaA2
import Derived.Laws.EntriesVeiled
namespace Go.Proofs
open Go.RowKit Go.Proofs.Pc

theorem vec_get (xs : List Int) {k : Nat} (h : k < 12) : (vec xs).toArray[k]? = some (.int .i64 (xs.getD k 0)) := by
  unfold vec
  rw [List.getElem?_toArray, List.getElem?_map, List.getElem?_range h]
  rfl
theorem plain3 : Try.prog.plainKey 3 = true := by kernel_rfl
theorem und82 : Try.prog.underlying 82 = some (.array 12 3) := by kernel_rfl
theorem und3 : Try.prog.underlying 3 = some (.int .i64) := by kernel_rfl
theorem cellsOf3 : Try.prog.cellsOf 3 = 1 := by kernel_rfl
theorem info3 : ∃ i, Try.prog.info? 3 = some i := by
  have h : (Try.prog.info? 3).isSome = true := by kernel_rfl
  exact Option.isSome_iff_exists.1 h
theorem eqItems12 (xs ys : List Int) (w : World) : ∀ (is : List Nat), (∀ i ∈ is, i < 12) → (Op.eqItems 9999 3 1 (vec xs).toArray (vec ys).toArray is).run Try.prog w = .ok (is.all fun k => xs.getD k 0 == ys.getD k 0) w
  | [], _ => by simp [Op.eqItems]
  | i :: is, h => by
    have hi := h i (by simp)
    have ih := eqItems12 xs ys w is (fun j hj => h j (by simp [hj]))
    have h1 := run_part_plain w plain3 (vec_get xs hi)
    have h2 := run_part_plain w plain3 (vec_get ys hi)
    have h3 := run_equalIn_int (P := Try.prog) w 9998 3 .i64 .i64 (xs.getD i 0) (ys.getD i 0) und3
    simp only [Op.eqItems, Sem.run_bind, Nat.mul_one, h1, h2, h3, Result.andThen_ok, List.all_cons]
    cases xs.getD i 0 == ys.getD i 0
    · simp
    · simpa using ih
theorem neq82 (xs ys : List Int) (w : World) : (binOp .neq 82 (.agg (vec xs).toArray) (.agg (vec ys).toArray)).run Try.prog w = .ok (.bool (!eq12 xs ys)) w := by
  obtain ⟨i, hi⟩ := info3
  rw [run_neq_struct, run_equalIn_array w 9999 _ _ und82 hi, cellsOf3, eqItems12 xs ys w _ (fun i hi => by simpa using hi)]
  rfl
end Go.Proofs
namespace Go.Proofs
open Go.RowKit Go.Proofs.Pc

theorem overlaps_any (w : World) (br : Nat) : Calls Try.prog 83 #[.pointer (some ⟨br, 0, none⟩)] w fun e w' =>
    e = .returned (.func (.func 87) #[] #[.pointer (some ⟨w.heap.size, 0, none⟩)]) ∧ w' = w.alloc (.cells #[.pointer (some ⟨br, 0, none⟩)] 62) := by
  go_enter Try.func83, Try.ntmps83
  go_wp2
  exact bodyPost_ret (v := .func (.func 87) #[] #[.pointer (some ⟨w.heap.size, 0, none⟩)]) (results_tmp (t := 2) rfl _ _ _) rfl ⟨rfl, rfl⟩

section
variable {o : Oper} {rest : List Oper} {ops : Array Oper} {a : Act} {w w' : World} {n l : Nat} {Q : Exit → Act → World → Prop} {v : Value}
theorem wpListIn_selR (s : Nat) {F : Fence} {op : Op} {t : TypeId} {p : String} {af : Array Edge} {g : Option (Nat × Bool)} (h : wpListIn F n Try.prog ops Q (⟨some s, op, t, p, af, g⟩ :: rest) a w) : wpListIn F n Try.prog ops Q (⟨some s, op, t, p, af, g⟩ :: rest) a w := h
theorem wpListIn_valR (hg : o.guard = none) (hnc : ∀ c, o.op ≠ .defer c) (hrun : (execOp a.eval o).run Try.prog w = .ok (.value v) w') (h : wpListIn (Fence.wide.inRound l) n Try.prog ops Q rest (a.put o.dst v) w') : wpListIn (Fence.wide.inRound l) n Try.prog ops Q (o :: rest) a w :=
  wpListIn_plain hg fun _ hK => ⟨fun _ _ => trivial, by
    rw [show (Fence.wide.inRound l).round = some l from rfl, Oper.semAt_eq _ _ _ (fun c h => hnc c h), hrun]
    exact hK _ _ h⟩
theorem r_neq82 (x y : Operand) (xs ys : List Int) (ho : o.op = .binOp .neq 82 x y 82) (hx : a.eval x = .agg (vec xs).toArray) (hy : a.eval y = .agg (vec ys).toArray) :
    (execOp a.eval o).run Try.prog w = .ok (.value (.bool (!eq12 xs ys))) w := by
  have h1 := run_eqGuard_agg (P := Try.prog) w .neq 82 x y (vec xs).toArray (vec ys).toArray Try.eqGuardType82
  unfold execOp
  simp only [ho, hx, hy, Sem.run_bind, h1, neq82, Result.andThen_ok]
  rfl
end

theorem it_seq {P : PcD} (hv : Valid P) (n tb br : Nat) (w : World) (hr : RulesAt w br P) (ht : w.cell? ⟨tb, 0, none⟩ = some (.pointer (some ⟨br, 0, none⟩))) :
    SeqStopsK Fence.wide n Try.prog 87 #[.pointer (some ⟨tb, 0, none⟩)] encP KC (fun xs => xs = ovl P) (fun pre => Pre pre (ovl P)) ((ovl P).length + 1) w :=
  fun l J Jx W hb hJ hJx hY h0 => it_walk hv n l tb br J Jx W ((KC.of_below hb).rules hr) ((KC.of_below hb).cell ht) hJ hJx hY h0

/-- A box of one array. -/
theorem range_kept {W W' : World} {row : Option Nat} {b k : Nat} {cs : List Value} (h : W.rangeAt b k cs) (hg : W.grownBy W' row) (hrow : ∀ r, row = some r → ∃ o : Obj, W.heap[r]? = some o ∧ o.isCells = false) : W'.rangeAt b k cs :=
  fun j v hv => cell_kept (h j v hv) hg hrow

def bare48 (br c tb : Nat) (b1 b2 u v : Value) : Act := { tmps := #[.pointer (some ⟨br, 0, none⟩), undef, .pointer (some ⟨c, 0, none⟩), b1, b2, .pointer (some ⟨br, 0, none⟩), .func (.func 87) #[] #[.pointer (some ⟨tb, 0, none⟩)], u, v, undef, undef, undef], defers := [] }

set_option maxRecDepth 100000 in
set_option maxHeartbeats 4000000 in
theorem cons_in {P : PcD} (hv : Valid P) (w : World) (br : Nat) (hr : RulesAt w br P) :
    CallsIn Fence.wide 3 Try.prog 48 #[.pointer (some ⟨br, 0, none⟩)] w fun e w' => e = .returned (.bool (consB P)) ∧ Below w.heap.size w w' := by
  have HR := Lib.hid hr
  clear hr
  refine callsIn_of_wp_marks Try.func48 rfl trivial ?_ rfl
  simp only [Try.ntmps48, List.size_toArray, List.length_cons, List.length_nil, Nat.reduceAdd, Nat.reduceSub, Array.replicate_succ, Array.replicate_zero, List.push_toArray, List.append_toArray, List.nil_append, List.cons_append]
  gi_wp2_with (refine ⟨trivial, (callsIn_wide.2 (overlaps_any _ br)).mono ?_⟩; rintro e w' ⟨rfl, rfl⟩)
  obtain ⟨W0, hW0⟩ : ∃ W0, (w.alloc (.cells #[.bool false] 4)).alloc (.cells #[.pointer (some ⟨br, 0, none⟩)] 62) = W0 := ⟨_, rfl⟩
  have hs0 : W0.heap.size = w.heap.size + 2 := by rw [← hW0]; simp
  have hB0 : Boxed W0 w.heap.size 4 (.bool false) := by rw [← hW0]; exact (Boxed.new w _ _).alloc _
  have hB1 : Boxed W0 (w.heap.size + 1) 62 (.pointer (some ⟨br, 0, none⟩)) := by
    rw [← hW0]; have := Boxed.new (w.alloc (.cells #[.bool false] 4)) 62 (.pointer (some ⟨br, 0, none⟩)); rwa [World.size_alloc] at this
  have hBW : Below w.heap.size w W0 := by rw [← hW0]; exact ((Below.refl _ w).alloc (Nat.le_refl _) _).alloc (by simp) _
  rw [hW0]
  clear hW0
  have hst := @store_vec_new
  refine wpIn_rangeFunc_ownH rfl (Nat.le_of_ble_eq_true rfl) (gf := 87) (lb := #[.pointer (some ⟨w.heap.size + 1, 0, none⟩)]) rfl trivial (enters_of Try.func87 (by kernel_rfl) rfl)
    (it_seq hv 2 (w.heap.size + 1) br W0 ((KC.of_below hBW).rules HR.out) hB1.cell) (fun h k => KC.trans h k) (fun W l o o' _ h hc _ => KC.put h hc) (Below.refl _ _) (fun _ => rfl)
    (fun pre W => ((∀ p ∈ pre, eq12 p.1 p.2 = true) ∧ W.cell? ⟨w.heap.size, 0, none⟩ = some (.bool false) ∧ W.frozen? ⟨w.heap.size, 0, none⟩ = false) ∧ Below w.heap.size w W)
    (fun c pre W => (c = .ret ∧ (∃ p ∈ pre, eq12 p.1 p.2 = false) ∧ W.cell? ⟨w.heap.size, 0, none⟩ = some (.bool false)) ∧ Below w.heap.size w W)
    (OwnFrom.and (Own.from (fun s A B row hs hg hr => ⟨hs.1, cell_kept hs.2.1 hg hr, (frozen_kept hs.2.1 hg hr).trans hs.2.2⟩) _) (ownFrom_below (Nat.le_refl _) (by omega)))
    (fun c => OwnFrom.and (Own.from (fun s A B row hs hg hr => ⟨hs.1, hs.2.1, cell_kept hs.2.2 hg hr⟩) _) (ownFrom_below (Nat.le_refl _) (by omega)))
    ⟨⟨by simp, hB0.cell, hB0.frozen⟩, hBW⟩
    (fun x a' W => ∃ b1 b2 : Nat, a' = bare48 br w.heap.size (w.heap.size + 1) (.pointer (some ⟨b1, 0, none⟩)) (.pointer (some ⟨b2, 0, none⟩)) (.agg (vec x.1).toArray) (.agg (vec x.2).toArray) ∧ W.rangeAt b1 0 (vec x.1) ∧ W.rangeAt b2 0 (vec x.2))
    (fun x a' => Own.from (fun s A B row ⟨b1, b2, h1, h2, h3⟩ hg hr => ⟨b1, b2, h1, range_kept h2 hg hr, range_kept h3 hg hr⟩) _) ?assign ?body ?done ?stop
  case assign =>
    rintro l pre x W K hI hK
    have hgn := (World.grownBy_alloc W (.cells (vec x.1).toArray 82) none)
    have hfin := hK (bare48 br w.heap.size (w.heap.size + 1) (.pointer (some ⟨W.heap.size, 0, none⟩)) (.pointer (some ⟨W.heap.size + 1, 0, none⟩)) (.agg (vec x.1).toArray) (.agg (vec x.2).toArray)) ((W.alloc (.cells (vec x.1).toArray 82)).alloc (.cells (vec x.2).toArray 82))
      (KeepsFrom.trans (KeepsFrom.of_grownBy (World.grownBy_alloc W _ none) (fun j e => by cases e)) (KeepsFrom.of_grownBy (World.grownBy_alloc _ _ none) (fun j e => by cases e)))
      (((KC.refl W).alloc _).alloc _)
      ⟨⟨hI.1.1, cell_kept (cell_kept hI.1.2.1 (World.grownBy_alloc W _ none) (fun r e => by cases e)) (World.grownBy_alloc _ _ none) (fun r e => by cases e),
        (frozen_kept (cell_kept hI.1.2.1 (World.grownBy_alloc W _ none) (fun r e => by cases e)) (World.grownBy_alloc _ _ none) (fun r e => by cases e)).trans ((frozen_kept hI.1.2.1 (World.grownBy_alloc W _ none) (fun r e => by cases e)).trans hI.1.2.2)⟩,
        (hI.2.alloc hI.2.size _).alloc (by have := hI.2.size; simp; omega) _⟩
      ⟨_, _, rfl, range_kept (range_new W x.1) (World.grownBy_alloc _ _ none) (fun r e => by cases e), by have := range_new (W.alloc (.cells (vec x.1).toArray 82)) x.2; rwa [World.size_alloc] at this⟩
    clear hv HR hI hK hB0 hB1 hBW hgn
    have hst2 := store_vec_new (W.alloc (.cells (vec x.1).toArray 82)) x.2
    rw [World.size_alloc] at hst2
    simp only [encP]
    gi_wp2_with (rw [Oper.semAt_eq _ _ _ (fun c h => by cases h)]; go_simp)
    exact hfin
  case body =>
    rintro l pre x a' W hl hrec ⟨⟨hp, hcr, hfr⟩, hB⟩ ⟨b1, b2, rfl, h1, h2⟩ hlen
    have HP := Lib.hid hp
    have HB := Lib.hid hB
    have H1 := Lib.hid h1
    have H2 := Lib.hid h2
    clear hp hB h1 h2 hst hv HR hB0 hB1 hBW hlen hrec
    simp only [bare48]
    gi_wp2_with (first
      | (with_reducible refine wpListIn_selR 9 ?_; refine wpListIn_valR rfl (fun c h => by cases h) (r_load82 (.tmp 3) b1 0 x.1 rfl rfl H1.out) ?_)
      | (with_reducible refine wpListIn_selR 10 ?_; refine wpListIn_valR rfl (fun c h => by cases h) (r_load82 (.tmp 4) b2 0 x.2 rfl rfl H2.out) ?_)
      | (with_reducible refine wpListIn_selR 11 ?_; refine wpListIn_valR rfl (fun c h => by cases h) (r_neq82 (.tmp 9) (.tmp 10) x.1 x.2 rfl rfl rfl) ?_)
      | (rw [Oper.semAt_eq _ _ _ (fun c h => by cases h)]; go_simp))
    · rename_i hx
      have hx' : eq12 x.1 x.2 = false := by simpa using hx
      exact ⟨(KeepsOthers.setCell _ _ _).from _, ⟨rfl, ⟨x, by simp, hx'⟩, World.cell?_setCell_same' _ _ _ (by rw [hcr]; rfl)⟩, HB.out.setCell (p := ⟨w.heap.size, 0, none⟩) (by simp) _⟩
    · rename_i hx
      have hx' : eq12 x.1 x.2 = true := by simpa using hx
      exact ⟨(KeepsOthers.refl _).from _, KC.refl _, ⟨fun p hp => (List.mem_append.1 hp).elim (HP.out p) (fun e => by simp at e; subst e; exact hx'), hcr, hfr⟩, HB.out⟩
  case done =>
    rintro D xs W hD rfl ⟨⟨hp, hcr, hfr⟩, hB⟩ hK
    gi_wp2
    have hK' := (KeepsOthers.setCell W ⟨w.heap.size, 0, none⟩ (.bool true)).same D _ hK rfl
    refine ⟨by simp, .inl ⟨_, _, rfl, run_takeDeferred hK', ?_⟩⟩
    have hc5 := cell_kept (World.cell?_setCell_same' W ⟨w.heap.size, 0, none⟩ (.bool true) (by rw [hcr]; rfl)) (grownBy_putObj' _ D (.deferred none)) (fun r e => by cases e; exact ⟨_, hK', rfl⟩)
    have hc : consB P = true := List.all_eq_true.2 hp
    refine ⟨.bool true, ?_, by rw [hc], (hB.setCell (p := ⟨w.heap.size, 0, none⟩) (by simp) _).trans (belowK_b (w := w) (Nat.le_refl _) _ D _ _ (by omega) hK' rfl rfl)⟩
    simp [results, Try.f48, go_sem, hc5]
  case stop =>
    rintro D c pre W hD ⟨suf, hpre⟩ ⟨⟨rfl, ⟨p, hin, hpf⟩, hcr⟩, hB⟩ hK
    gi_wp2
    refine ⟨by simp, .inl ⟨_, _, rfl, run_takeDeferred hK, ?_⟩⟩
    have hc5 := cell_kept hcr (grownBy_putObj' _ D (.deferred none)) (fun r e => by cases e; exact ⟨_, hK, rfl⟩)
    have hc : consB P = false := by
      rw [Bool.eq_false_iff]
      intro h
      have := List.all_eq_true.1 h p (by rw [hpre]; exact List.mem_append_left _ hin)
      rw [hpf] at this
      cases this
    refine ⟨.bool false, ?_, by rw [hc], hB.trans (belowK_b (w := w) (Nat.le_refl _) W D _ _ (by omega) hK rfl rfl)⟩
    simp [results, Try.f48, go_sem, hc5]

theorem cons_any {P : PcD} (hv : Valid P) (w : World) (br : Nat) (hr : RulesAt w br P) :
    Calls Try.prog 48 #[.pointer (some ⟨br, 0, none⟩)] w fun e w' => e = .returned (.bool (consB P)) ∧ Below w.heap.size w w' :=
  callsIn_wide.1 (cons_in hv w br hr)
end Go.Proofs
namespace Go.Proofs
open Go.RowKit Go.Proofs.Pc

/-- The group's pointer: nil, or its first field is nil. -/
def Dead (w : World) (g : Option Addr) : Prop := g = none ∨ ∃ b, g = some ⟨b, 0, none⟩ ∧ w.cell? ⟨b, 0, none⟩ = some (.pointer none)
theorem Dead.below {w w' : World} {g : Option Addr} (h : Dead w g) (hb : Below w.heap.size w w') : Dead w' g := by
  rcases h with rfl | ⟨b, rfl, hc⟩
  · exact .inl rfl
  · exact .inr ⟨b, rfl, (hb.cell (p := ⟨b, 0, none⟩) (World.block_lt_of_cell? w ⟨b, 0, none⟩ hc)).trans hc⟩
/-- The group's pointer: its first field points to br. -/
def Live (w : World) (bg br : Nat) : Prop := w.cell? ⟨bg, 0, none⟩ = some (.pointer (some ⟨br, 0, none⟩))

set_option maxRecDepth 100000 in
theorem valid_dead (w : World) (g : Option Addr) (h : Dead w g) : Calls Try.prog 54 #[.pointer g] w fun e w' => e = .returned (.bool false) ∧ w' = w := by
  rcases h with rfl | ⟨b, rfl, hc⟩
  · go_enter Try.func54, Try.ntmps54
    go_wp2
    exact bodyPost_ret (results_tmp (t := 2) rfl _ _ _) rfl ⟨rfl, rfl⟩
  · go_enter Try.func54, Try.ntmps54
    go_wp2
    exact bodyPost_ret (results_tmp (t := 2) rfl _ _ _) rfl ⟨rfl, rfl⟩
set_option maxRecDepth 100000 in
theorem valid_live (w : World) (bg br : Nat) (h : Live w bg br) : Calls Try.prog 54 #[.pointer (some ⟨bg, 0, none⟩)] w fun e w' => e = .returned (.bool true) ∧ w' = w := by
  unfold Live at h
  go_enter Try.func54, Try.ntmps54
  go_wp2
  exact bodyPost_ret (results_tmp (t := 2) rfl _ _ _) rfl ⟨rfl, rfl⟩

theorem results_cell_tmp {fn : Func} {p q : Tmp} (h : fn.results = #[.cell p 82, .tmp q]) (tmps : Array Value) (w : World) (g : Nat) (xs : List Int) (u : Value)
    (hp : tmps.getD p undef = .pointer (some ⟨g, 0, none⟩)) (hq : tmps.getD q undef = u) (hg : w.heap[g]? = some (.cells (vec xs).toArray 82 (0, 0))) :
    (results fn tmps).run Try.prog w = .ok (.tuple #[.agg (vec xs).toArray, u]) w := by
  have hp' : tmps[p]?.getD undef = .pointer (some ⟨g, 0, none⟩) := by simpa using hp
  have hq' : tmps[q]?.getD undef = u := by simpa using hq
  simp [results, h, hp', hq', asAddr, run_loadVar_row w g 82 82 (vec xs).toArray (0, 0) _ hg Try.underlying82 rfl (by rw [size_vec]; exact info82)]
set_option maxRecDepth 100000 in
theorem take_dead (w : World) (g : Option Addr) (h : Dead w g) (sv : Value) : Calls Try.prog 69 #[.pointer g, sv] w fun e w' => e = .returned (.tuple #[.agg (vec []).toArray, .int .i64 1]) ∧ Below w.heap.size w w' := by
  have hd : Dead (w.alloc (.cells (vec []).toArray 82)) g := h.below ((Below.refl _ _).alloc (Nat.le_refl _) _)
  have hst := @store_vec_same
  go_enter Try.func69, Try.ntmps69
  go_wp2_with (first
    | (go_at_call 54; refine (valid_dead _ g hd).mono ?_; rintro e w' ⟨rfl, rfl⟩)
    | (refine wpList_load_mid rfl 82 (.tmp 4) rfl w.heap.size 0 rfl (vec []) _ (range_new _ _) Try.underlying82 rfl (by rw [length_vec]; exact info82) ?_))
  exact bodyPost_ret (results_cell_tmp rfl _ _ w.heap.size [] (.int .i64 1) rfl rfl (heap_alloc_new w _)) rfl ⟨rfl, (Below.refl _ _).alloc (Nat.le_refl _) _⟩

set_option maxRecDepth 100000 in
theorem mul_dead (w : World) (g : Option Addr) (h : Dead w g) (sv sv2 : Value) : Calls Try.prog 29 #[.pointer g, sv, sv2] w fun e w' => e = .returned (.tuple #[.slice none 0 0, .int .i64 1]) ∧ Below w.heap.size w w' := by
  have hst := @store_vec_new
  go_enter Try.func29, Try.ntmps29
  go_wp2_with (go_at_call 69; refine (take_dead w g h sv).mono ?_; rintro e w' ⟨rfl, hb⟩)
  exact bodyPost_ret (results_tmp2 (t := 6) (u := 7) rfl _ _ _) rfl ⟨rfl, hb.alloc hb.size _⟩
set_option maxRecDepth 100000 in
theorem inv_dead (w : World) (g : Option Addr) (h : Dead w g) (sv : Value) : Calls Try.prog 32 #[.pointer g, sv] w fun e w' => e = .returned (.tuple #[.slice none 0 0, .int .i64 1]) ∧ Below w.heap.size w w' := by
  have hst := @store_vec_new
  go_enter Try.func32, Try.ntmps32
  go_wp2_with (go_at_call 69; refine (take_dead w g h sv).mono ?_; rintro e w' ⟨rfl, hb⟩)
  exact bodyPost_ret (results_tmp2 (t := 4) (u := 5) rfl _ _ _) rfl ⟨rfl, hb.alloc hb.size _⟩
set_option maxRecDepth 100000 in
theorem pow_dead (w : World) (g : Option Addr) (h : Dead w g) (sv nv : Value) : Calls Try.prog 34 #[.pointer g, sv, nv] w fun e w' => e = .returned (.tuple #[.slice none 0 0, .int .i64 1]) ∧ Below w.heap.size w w' := by
  have hst := @store_vec_new
  go_enter Try.func34, Try.ntmps34
  go_wp2_with (go_at_call 69; refine (take_dead w g h sv).mono ?_; rintro e w' ⟨rfl, hb⟩)
  exact bodyPost_ret (results_tmp2 (t := 6) (u := 7) rfl _ _ _) rfl ⟨rfl, hb.alloc hb.size _⟩
set_option maxRecDepth 100000 in
theorem eval_dead (w : World) (g : Option Addr) (h : Dead w g) (sv : Value) : Calls Try.prog 36 #[.pointer g, sv] w fun e w' => e = .returned (.tuple #[.slice none 0 0, .int .i64 1]) ∧ Below w.heap.size w w' := by
  go_enter Try.func36, Try.ntmps36
  go_wp2_with (go_at_call 54; refine (valid_dead w g h).mono ?_; rintro e w' ⟨rfl, rfl⟩)
  exact bodyPost_ret (results_tmp2 (t := 4) (u := 5) rfl _ _ _) rfl ⟨rfl, Below.refl _ _⟩
set_option maxRecDepth 100000 in
theorem element_dead (w : World) (g : Option Addr) (h : Dead w g) (nv : Value) : Calls Try.prog 38 #[.pointer g, nv] w fun e w' => e = .returned (.tuple #[.slice none 0 0, .int .i64 1]) ∧ Below w.heap.size w w' := by
  go_enter Try.func38, Try.ntmps38
  go_wp2_with (go_at_call 54; refine (valid_dead w g h).mono ?_; rintro e w' ⟨rfl, rfl⟩)
  exact bodyPost_ret (results_tmp2 (t := 4) (u := 5) rfl _ _ _) rfl ⟨rfl, Below.refl _ _⟩
set_option maxRecDepth 100000 in
theorem period_dead (w : World) (g : Option Addr) (h : Dead w g) (sv : Value) : Calls Try.prog 40 #[.pointer g, sv] w fun e w' => e = .returned (.tuple #[.int .i64 0, .int .i64 1]) ∧ Below w.heap.size w w' := by
  have hst := @store_vec_new
  go_enter Try.func40, Try.ntmps40
  go_wp2_with (go_at_call 69; refine (take_dead w g h sv).mono ?_; rintro e w' ⟨rfl, hb⟩)
  exact bodyPost_ret (results_tmp2 (t := 4) (u := 5) rfl _ _ _) rfl ⟨rfl, hb.alloc hb.size _⟩
set_option maxRecDepth 100000 in
theorem rank_dead (w : World) (g : Option Addr) (h : Dead w g) (sv : Value) : Calls Try.prog 42 #[.pointer g, sv] w fun e w' => e = .returned (.tuple #[.int .i64 0, .int .i64 1]) ∧ Below w.heap.size w w' := by
  have hst := @store_vec_new
  go_enter Try.func42, Try.ntmps42
  go_wp2_with (go_at_call 69; refine (take_dead w g h sv).mono ?_; rintro e w' ⟨rfl, hb⟩)
  exact bodyPost_ret (results_tmp2 (t := 4) (u := 5) rfl _ _ _) rfl ⟨rfl, hb.alloc hb.size _⟩
set_option maxRecDepth 100000 in
theorem order_dead (w : World) (g : Option Addr) (h : Dead w g) : Calls Try.prog 18 #[.pointer g] w fun e w' => e = .returned (.int .i64 0) ∧ w' = w := by
  go_enter Try.func18, Try.ntmps18
  go_wp2_with (go_at_call 54; refine (valid_dead w g h).mono ?_; rintro e w' ⟨rfl, rfl⟩)
  exact bodyPost_ret (results_tmp (t := 2) rfl _ _ _) rfl ⟨rfl, rfl⟩
set_option maxRecDepth 100000 in
theorem pc_dead (w : World) (g : Option Addr) (h : Dead w g) : Calls Try.prog 21 #[.pointer g] w fun e w' => e = .returned (.agg #[.slice none 0 0, .slice none 0 0, .slice none 0 0]) ∧ Below w.heap.size w w' := by
  have hd : Dead (w.alloc (.cells #[.slice none 0 0, .slice none 0 0, .slice none 0 0] 26)) g := h.below ((Below.refl _ _).alloc (Nat.le_refl _) _)
  go_enter Try.func21, Try.ntmps21
  go_wp2_with (go_at_call 54; refine (valid_dead _ g hd).mono ?_; rintro e w' ⟨rfl, rfl⟩)
  exact bodyPost_ret (results_cell_row (P := Try.prog) (p := 2) rfl _ _ w.heap.size 26 _ (0, 0) _ rfl (heap_alloc_new w _) Try.underlying26 rfl (by kernel_rfl)) rfl ⟨rfl, (Below.refl _ _).alloc (Nat.le_refl _) _⟩
end Go.Proofs
namespace Go.Proofs
open Go.Shelf
def Try.laysClone_ren : Go.Shelf.Ren := ⟨fun | 15 => 84 | n => n, fun | 22 => 22 | 3 => 3 | 4 => 4 | n => n, fun | n => n⟩
theorem Try.laysClone : Go.Proofs.Lays2.n15 Try.prog Try.laysClone_ren := {
  mixed := by kernel_rfl
  f15 := Try.func84.trans (congrArg some (by kernel_rfl))
  t3 := Try.underlying3
  a3 := Try.isAgg3
  z3 := Try.sizeOf3
  v3 := Try.zeroValue3
  t4 := Try.underlying4
  a4 := Try.isAgg4
  z4 := Try.sizeOf4
  v4 := Try.zeroValue4
  t22 := Try.underlying22
  a22 := Try.isAgg22
  z22 := Try.sizeOf22
  v22 := Try.zeroValue22
  i3 := by kernel_rfl }
end Go.Proofs
namespace Go.Proofs
open Go.RowKit Go.Proofs.Pc Go.Shelf

theorem intsAt_of_owns {w : World} {base : Nat} {v : Value} {n : Nat} {xs : List Int} (h : w.ownsRow base 3 1 v n (xs.map (Value.int .i64))) (hv : v ≠ .slice none 0 0) (hf : Fits xs) : IntsAt w v xs := by
  obtain ⟨g, cap, rfl, _, _, hn, hm, hl, hH⟩ := Lib.holds_of_ownsRow h hv
  refine ⟨⟨_, n, cap, rfl, by simp [ints, hl], hn, hm, fun _ => ⟨g, 0, rfl, fun j u hu => ?_⟩⟩, hf⟩
  have hj : j < xs.length := by
    rcases Nat.lt_or_ge j xs.length with h | h
    · exact h
    · rw [List.getElem?_eq_none (by simpa [ints] using h)] at hu; cases hu
  have := (hH j (by simpa using hj)).1
  rw [this]
  simp [ints, hj] at hu
  simp [hj, hu]
theorem intsAt_nil {w : World} : IntsAt w (.slice none 0 0) [] := ⟨⟨none, 0, 0, rfl, rfl, Nat.le_refl _, by simp, fun h => absurd h (by simp)⟩, fun x hx => by cases hx⟩

theorem clone_any (w : World) (v : Value) (xs : List Int) (h : IntsAt w v xs) (hl : xs.length ≤ 1000) : Calls Try.prog 84 #[v] w fun e w' => ∃ u, e = .returned u ∧ IntsAt w' u xs ∧ Below w.heap.size w w' := by
  obtain ⟨A, cap, rfl, hcap, hmax, hr⟩ := h.open_
  rcases Nat.eq_zero_or_pos xs.length with h0 | h0
  · obtain rfl : xs = [] := List.length_eq_zero_iff.1 h0
    cases A with
    | none =>
      exact (Any.slices_Clone_int_nil Try.laysClone _ _ w).mono fun e w' ⟨he, hw⟩ => by subst hw; exact ⟨_, he, intsAt_nil, Below.refl _ _⟩
    | some a =>
      exact (Any.slices_Clone_int_zero Try.laysClone a cap w).mono fun e w' ⟨u, he, ho, hn, hb⟩ => ⟨u, he, intsAt_of_owns ho hn h.2, hb⟩
  · obtain ⟨b, off, rfl, hc⟩ := hr h0
    exact (Any.slices_Clone_int Try.laysClone b off xs.length cap xs w (Nat.le_refl _) (by omega) hc).mono fun e w' ⟨u, he, ho, hn, hb⟩ => ⟨u, he, intsAt_of_owns (by rwa [List.take_of_length_le (Nat.le_refl _)] at ho) hn h.2, hb⟩
end Go.Proofs
namespace Go.Proofs
open Go.RowKit Go.Proofs.Pc

def listsF (bn bp : Nat) : Value := .func (.func 56) #[] #[.pointer (some ⟨bn, 0, none⟩), .pointer (some ⟨bp, 0, none⟩)]

set_option maxRecDepth 100000 in
set_option maxHeartbeats 1000000 in
theorem chk5_any (w : World) (bn bp bl : Nat) (v0 v1 v2 : Value) (P : PcD) (hn : w.cell? ⟨bn, 0, none⟩ = some (.int .i64 P.n)) (hl : w.cell? ⟨bl, 0, none⟩ = some (listsF bn bp))
    (hp0 : w.cell? ⟨bp, 0, none⟩ = some v0) (hp1 : w.cell? ⟨bp, 1, none⟩ = some v1) (hp2 : w.cell? ⟨bp, 2, none⟩ = some v2) (hP : PcAt w v0 v1 v2 P) (h12 : P.n ≤ 12) (hnp : P.powers.length = P.n) (hnc : P.conj.length = P.n) :
    Calls Try.prog 63 #[.pointer (some ⟨bn, 0, none⟩), .pointer (some ⟨bl, 0, none⟩), .pointer (some ⟨bp, 0, none⟩)] w fun e w' => e = .returned (.tuple #[.int .i64 (firstP (genErr P) P.n).1, .int .i64 (firstP (genErr P) P.n).2]) ∧ ∃ q, w' = w.drewN q := by
  have H0 := Lib.hid hP.1
  obtain ⟨A1, c1, rfl, ha1, ha2, ha⟩ := hP.2.1.open_
  obtain ⟨A2, c2, rfl, hb1, hb2, hb⟩ := hP.2.2.open_
  unfold listsF at hl
  have HA := Lib.hid ha
  have HB := Lib.hid hb
  have HNP := Lib.hid hnp
  have HNC := Lib.hid hnc
  clear ha hb hP hnp hnc
  go_enter Try.func63, Try.ntmps63
  go_wp2_with fail
  go_loopw [5, 11] (fun _ i wr => ∃ k : Nat, k ≤ P.n ∧ i = .int .i64 k ∧ firstP (genErr P) k = (0, 0) ∧ ∃ q, wr = w.drewN q) (fun _ i _ => P.n - (intOf i).toNat)
  case atStart => exact ⟨0, Nat.zero_le _, rfl, rfl, 0, rfl⟩
  case round =>
    obtain ⟨k, hk, rfl, hz, q, rfl⟩ := hrel
    have HZ := Lib.hid hz
    clear hz
    by_cases hlt : k < P.n
    · obtain ⟨b1, o1, rfl, hc1⟩ := HA.out (by rw [HNP.out]; omega)
      obtain ⟨b2, o2, rfl, hc2⟩ := HB.out (by rw [HNC.out]; omega)
      obtain ⟨u1, hu1, hr1⟩ := hc1 k (by rw [HNP.out]; omega)
      obtain ⟨u2, hu2, hr2⟩ := hc2 k (by rw [HNC.out]; omega)
      have HR1 : Hid (IntsAt w u1 (P.pow k)) := hr1
      obtain ⟨A3, c3, rfl, hd1, hd2, hd⟩ := hr2.open_
      have HD := Lib.hid hd
      clear hc1 hc2 hr1 hr2 hd
      have hkp : (k : Int) < (P.powers.length : Int) := by rw [HNP.out]; omega
      have hkc : (k : Int) < (P.conj.length : Int) := by rw [HNC.out]; omega
      have hk0 : (0 : Int) ≤ (k : Int) := Int.natCast_nonneg _
      have hge : genErr P k = if listErr P (P.pow k) ((k : Int) + 1) = 0 then (if (P.conj.getD k []).length = k then firstNZ (fun i => listErr P (P.cj k i) ((i : Int) + 1)) k else 3) else listErr P (P.pow k) ((k : Int) + 1) := rfl
      have HGE := Lib.hid hge
      clear hge
      generalize hrow : P.conj.getD k [] = row at *
      have HRow := Lib.hid hrow
      clear hrow
      by_cases hL : listErr P (P.pow k) ((k : Int) + 1) = 0
      · have d1 : (listErr P (P.pow k) ((k : Int) + 1) != 0) = false := by simp [hL]
        have HL := Lib.hid hL
        clear hL
        by_cases hml : row.length = k
        · have d2 : ((row.length : Int) != (k : Int)) = false := by simp; omega
          have d3 : (row.length != k) = false := by simp; omega
          have HM := Lib.hid hml
          have hcje : ∀ i, P.cj k i = row.getD i [] := fun i => by unfold PcD.cj; rw [HRow.out]
          have HCJ := Lib.hid hcje
          clear hml hcje
          go_wp2_with fail
          go_quiet ((go_at_call 56; exact quiet_add_left (lists_any _ bn bp v0 _ P (P.pow k) _ hn hp0 H0.out HR1.out)))
          go_wp2_with fail
          go_loopw [44] (fun i wr => ∃ j : Nat, j ≤ k ∧ i = .int .i64 j ∧ firstNZ (fun i => listErr P (P.cj k i) ((i : Int) + 1)) j = 0 ∧ ∃ q, wr = w.drewN q) (fun i _ => k - (intOf i).toNat)
          case atStart => exact ⟨0, Nat.zero_le _, rfl, rfl, _, rfl⟩
          case round =>
            obtain ⟨j, hj, rfl, hzj, qj, rfl⟩ := hrel
            have HZJ := Lib.hid hzj
            clear hzj
            by_cases hjl : j < k
            · obtain ⟨b3, o3, rfl, hc3⟩ := HD.out (by rw [HM.out]; omega)
              obtain ⟨u3', hu3, hr3⟩ := hc3 j (by rw [HM.out]; omega)
              have HR3 := Lib.hid hr3
              have hjm : (j : Int) < (row.length : Int) := by rw [HM.out]; omega
              have hj0 : (0 : Int) ≤ (j : Int) := Int.natCast_nonneg _
              have hcj : P.cj k j = row.getD j [] := HCJ.out j
              clear hc3 hr3
              generalize row.getD j [] = rj at *
              have HCj := Lib.hid hcj
              clear hcj
              by_cases hE : listErr P rj ((j : Int) + 1) = 0
              · have d4 : (listErr P (rj) ((j : Int) + 1) != 0) = false := by simp [hE]
                have HE := Lib.hid hE
                clear hE
                go_wp2_with (go_at_call 56; (refine (lists_any (w.drewN qj) bn bp v0 _ P rj _ hn hp0 H0.out HR3.out).mono ?_); rintro e w' ⟨rfl, rfl⟩)
                go_roundw
                case rel => exact ⟨j + 1, by omega, by go_num, firstNZ_step HZJ.out (by show listErr P (P.cj k j) _ = 0; rw [HCj.out]; exact HE.out), _, rfl⟩
                case measure => simp [intOf]; omega
              · have d4 : (listErr P (rj) ((j : Int) + 1) != 0) = true := by simp [hE]
                have HE := Lib.hid hE
                clear hE
                go_wp2_with (go_at_call 56; (refine (lists_any (w.drewN qj) bn bp v0 _ P rj _ hn hp0 H0.out HR3.out).mono ?_); rintro e w' ⟨rfl, rfl⟩)
                go_ret2
                have hx : firstNZ (fun i => listErr P (P.cj k i) ((i : Int) + 1)) k = listErr P (rj) ((j : Int) + 1) := by
                  rw [firstNZ_hit HZJ.out (by show listErr P (P.cj k j) _ ≠ 0; rw [HCj.out]; exact HE.out) k hjl]
                  show listErr P (P.cj k j) _ = _
                  rw [HCj.out]
                have hg : genErr P k = listErr P (rj) ((j : Int) + 1) := by rw [HGE.out, if_pos HL.out, if_pos HM.out, hx]
                have hf := firstP_hit HZ.out (by rw [hg]; exact HE.out) P.n hlt
                rw [hf, hg]
                exact ⟨rfl, _, rfl⟩
            · have hjk : j = k := by omega
              subst hjk
              have hge : row.length ≤ j := by rw [HM.out]; exact Nat.le_refl _
              go_wp2_with fail
              go_roundw
              case rel => exact ⟨j + 1, by omega, by go_num, firstP_step HZ.out (by rw [HGE.out, if_pos HL.out, if_pos HM.out, HZJ.out]), _, rfl⟩
              case measure => simp [intOf]; omega
        · have d2 : ((row.length : Int) != (k : Int)) = true := by simp; omega
          have d3 : (row.length != k) = true := by simp; omega
          have HM := Lib.hid hml
          clear hml
          go_wp2_with fail
          go_quiet ((go_at_call 56; exact quiet_add_left (lists_any _ bn bp v0 _ P (P.pow k) _ hn hp0 H0.out HR1.out)))
          go_wp2_with fail
          go_ret2
          have hg : genErr P k = 3 := by rw [HGE.out, if_pos HL.out, if_neg HM.out]
          have hf := firstP_hit HZ.out (by rw [hg]; decide) P.n hlt
          rw [hf, hg]
          exact ⟨rfl, _, rfl⟩
      · have d1 : (listErr P (P.pow k) ((k : Int) + 1) != 0) = true := by simp [hL]
        have HL := Lib.hid hL
        clear hL
        go_wp2_with fail
        go_quiet ((go_at_call 56; exact quiet_add_left (lists_any _ bn bp v0 _ P (P.pow k) _ hn hp0 H0.out HR1.out)))
        go_wp2_with fail
        go_ret2
        have hg : genErr P k = listErr P (P.pow k) ((k : Int) + 1) := by rw [HGE.out, if_neg HL.out]
        have hf := firstP_hit HZ.out (by rw [hg]; exact HL.out) P.n hlt
        rw [hf, hg]
        exact ⟨rfl, _, rfl⟩
    · have hkn : k = P.n := by omega
      subst hkn
      go_wp2_with fail
      go_ret2
      rw [HZ.out]
      exact ⟨rfl, _, rfl⟩
end Go.Proofs
namespace Go.Proofs
open Go.RowKit Go.Proofs.Pc

theorem lenErr_ok {P : PcD} (h : lenErr P = 0) : P.n ≤ 12 ∧ P.powers.length = P.n ∧ P.conj.length = P.n := by
  unfold lenErr at h
  by_cases a : P.n ≤ 12
  · rw [if_pos a] at h
    by_cases b : P.powers.length = P.n ∧ P.conj.length = P.n
    · exact ⟨a, b⟩
    · rw [if_neg b] at h; cases h
  · rw [if_neg a] at h; cases h

def Stage (P : PcD) (k : Nat) : Prop := (1 ≤ k → lenErr P = 0) ∧ (2 ≤ k → firstP (ordErr P) P.n = (0, 0)) ∧ (3 ≤ k → firstNZ (overErr P) P.n = 0) ∧ (4 ≤ k → firstP (genErr P) P.n = (0, 0))
def ChkRel (w : World) (P : PcD) (A0 : Option Addr) (c0 : Nat) (v1 v2 : Value) (k : Nat) (wr : World) : Prop := Stage P k ∧ wr.cell? ⟨w.heap.size, 0, none⟩ = some (.slice A0 P.orders.length c0) ∧ wr.cell? ⟨w.heap.size, 1, none⟩ = some v1 ∧ wr.cell? ⟨w.heap.size, 2, none⟩ = some v2 ∧ wr.cell? ⟨w.heap.size + 1, 0, none⟩ = some (.int .i64 P.n) ∧ wr.cell? ⟨w.heap.size + 1 + 1, 0, none⟩ = some (listsF (w.heap.size + 1) w.heap.size) ∧ (k ≤ 2 → wr.frozen? ⟨w.heap.size + 1 + 1 + 1, 0, none⟩ = false) ∧ (k ≤ 2 → wr.cell? ⟨w.heap.size + 1 + 1 + 1, 0, none⟩ = some (.int .i64 1)) ∧ wr.cell? ⟨w.heap.size + 1 + 1 + 1 + 1, 0, none⟩ = some (.func (.func 58) #[] #[.pointer (some ⟨w.heap.size + 1, 0, none⟩), .pointer (some ⟨w.heap.size, 0, none⟩)]) ∧ wr.cell? ⟨w.heap.size + 1 + 1 + 1 + 1, 1, none⟩ = some (.func (.func 59) #[] #[.pointer (some ⟨w.heap.size, 0, none⟩)]) ∧ wr.cell? ⟨w.heap.size + 1 + 1 + 1 + 1, 2, none⟩ = some (.func (.func 62) #[] #[.pointer (some ⟨w.heap.size, 0, none⟩), .pointer (some ⟨w.heap.size + 1 + 1 + 1, 0, none⟩)]) ∧ wr.cell? ⟨w.heap.size + 1 + 1 + 1 + 1, 3, none⟩ = some (.func (.func 63) #[] #[.pointer (some ⟨w.heap.size + 1, 0, none⟩), .pointer (some ⟨w.heap.size + 1 + 1, 0, none⟩), .pointer (some ⟨w.heap.size, 0, none⟩)]) ∧ Below w.heap.size w wr

set_option maxRecDepth 100000 in
set_option maxHeartbeats 1000000 in
theorem check_any (w : World) (v0 v1 v2 : Value) (P : PcD) (hP : PcAt w v0 v1 v2 P) :
    Calls Try.prog 23 #[.agg #[v0, v1, v2]] w fun e w' => e = .returned (.tuple #[.int .i64 (checkD P).1, .int .i64 (checkD P).2]) ∧ Below w.heap.size w w' := by
  have HP := Lib.hid hP
  obtain ⟨A0, c0, rfl, ha1, ha2, _⟩ := hP.1.open_
  clear hP
  have hmf : ∀ (fn : Fn) (first cap : Array Value) (w : World), (Instr.makeFunc fn first cap).run Try.prog w = .ok (.func fn first cap) w := fun _ _ _ _ => rfl
  go_enter Try.func23, Try.ntmps23
  go_wp2_with fail
  go_loopw [9, 10, 11, 23] (fun _ _ _ i wr => ∃ k : Nat, k ≤ 4 ∧ i = .int .i64 k ∧ ChkRel w P A0 c0 v1 v2 k wr) (fun _ _ _ i _ => 4 - (intOf i).toNat)
  case atStart =>
    refine ⟨0, by omega, rfl, ⟨⟨fun h => absurd h (by omega), fun h => absurd h (by omega), fun h => absurd h (by omega), fun h => absurd h (by omega)⟩, ?_⟩⟩
    refine ⟨by go_simp, by go_simp, by go_simp, by (have e : P.n = P.orders.length := rfl; rw [e]; go_simp), by (unfold listsF; go_simp), fun _ => by go_simp, fun _ => by go_simp, by go_simp, by go_simp, by go_simp, by go_simp, ?_⟩
    exact ((((((Below.refl _ w).alloc (Nat.le_refl _) _).alloc (by simp) _).alloc (by simp; omega) _).alloc (by simp; omega) _).alloc (by simp; omega) _)
  case round =>
    obtain ⟨k, hk, rfl, hst, h0, h1, h2, hn, hl, hf, ho, k0, k1, k2, k3, hb⟩ := hrel
    have HP' := Lib.hid (HP.out.below hb)
    have HS := Lib.hid hst
    have HO := Lib.hid ho
    have HF := Lib.hid hf
    have HN := Lib.hid hn
    have HL := Lib.hid hl
    have HBl := Lib.hid hb
    clear hst ho hf hn hl hb
    have hk4 : k = 0 ∨ k = 1 ∨ k = 2 ∨ k = 3 ∨ k = 4 := by omega
    rcases hk4 with rfl | rfl | rfl | rfl | rfl
    · by_cases hE : lenErr P = 0
      · have d1 : (lenErr P != 0) = false := by simp [hE]
        have HE := Lib.hid hE
        clear hE
        go_wp2_with (go_at_call 58; refine (chk2_any _ _ _ _ v1 v2 P HN.out h1 h2 HP'.out).mono ?_; rintro e w' ⟨rfl, rfl⟩)
        go_roundw
        case rel => exact ⟨1, by omega, by go_num, ⟨fun _ => HE.out, fun h => absurd h (by omega), fun h => absurd h (by omega), fun h => absurd h (by omega)⟩, h0, h1, h2, HN.out, HL.out, fun _ => HF.out (by omega), fun _ => HO.out (by omega), k0, k1, k2, k3, HBl.out⟩
        case measure => simp [intOf]
      · have d1 : (lenErr P != 0) = true := by simp [hE]
        have HE := Lib.hid hE
        clear hE
        go_wp2_with (go_at_call 58; refine (chk2_any _ _ _ _ v1 v2 P HN.out h1 h2 HP'.out).mono ?_; rintro e w' ⟨rfl, rfl⟩)
        go_ret2
        refine ⟨?_, HBl.out⟩
        have hd : checkD P = (lenErr P, 0) := by unfold checkD orElse; rw [if_neg HE.out]
        rw [hd]; rfl
    · by_cases hE : (firstP (ordErr P) P.n).1 = 0
      · have d1 : ((firstP (ordErr P) P.n).1 != 0) = false := by simp [hE]
        have HE := Lib.hid hE
        clear hE
        go_wp2_with (go_at_call 59; refine (chk3_any _ _ _ P h0 HP'.out.1).mono ?_; rintro e w' ⟨rfl, rfl⟩)
        go_roundw
        case rel => exact ⟨2, by omega, by go_num, ⟨fun _ => HS.out.1 (by omega), fun _ => firstP_ok HE.out, fun h => absurd h (by omega), fun h => absurd h (by omega)⟩, h0, h1, h2, HN.out, HL.out, fun _ => HF.out (by omega), fun _ => HO.out (by omega), k0, k1, k2, k3, HBl.out⟩
        case measure => simp [intOf]
      · have d1 : ((firstP (ordErr P) P.n).1 != 0) = true := by simp [hE]
        have HE := Lib.hid hE
        clear hE
        go_wp2_with (go_at_call 59; refine (chk3_any _ _ _ P h0 HP'.out.1).mono ?_; rintro e w' ⟨rfl, rfl⟩)
        go_ret2
        refine ⟨?_, HBl.out⟩
        have hd : checkD P = firstP (ordErr P) P.n := by unfold checkD orElse; rw [if_pos (HS.out.1 (by omega)), if_neg HE.out]
        rw [hd]; rfl
    · by_cases hE : firstNZ (overErr P) P.n = 0
      · have d1 : (firstNZ (overErr P) P.n != 0) = false := by simp [hE]
        have HE := Lib.hid hE
        clear hE
        go_wp2_with (go_at_call 62; refine (chk4_any w _ _ _ _ P h0 HP.out.1 HBl.out (by omega) (by omega) (HO.out (by omega)) (HF.out (by omega)) (fun k hk => firstP_zero (f := ordErr P) (by rw [HS.out.2.1 (by omega)]) k hk)).mono ?_; rintro e w' ⟨rfl, hg⟩)
        go_roundw
        have hgc : ∀ j o, j < 5 → j ≠ 3 → w'.cell? ⟨w.heap.size + j, o, none⟩ = wr.cell? ⟨w.heap.size + j, o, none⟩ := fun j o hj hj3 => World.cell?_of_block (hg.block _ (by have := World.block_lt_of_cell? wr _ k0; simp at this ⊢; omega) (by simp; omega))
        case rel => exact ⟨3, by omega, by go_num, ⟨fun _ => HS.out.1 (by omega), fun _ => HS.out.2.1 (by omega), fun _ => HE.out, fun h => absurd h (by omega)⟩, (hgc 0 0 (by omega) (by omega)).trans h0, (hgc 0 1 (by omega) (by omega)).trans h1, (hgc 0 2 (by omega) (by omega)).trans h2, (hgc 1 0 (by omega) (by omega)).trans HN.out, (hgc 2 0 (by omega) (by omega)).trans HL.out, fun h => absurd h (by omega), fun h => absurd h (by omega), (hgc 4 0 (by omega) (by omega)).trans k0, (hgc 4 1 (by omega) (by omega)).trans k1, (hgc 4 2 (by omega) (by omega)).trans k2, (hgc 4 3 (by omega) (by omega)).trans k3, HBl.out.grown hg HBl.out.size (fun k e => by cases e; omega)⟩
        case measure => simp [intOf]
      · have d1 : (firstNZ (overErr P) P.n != 0) = true := by simp [hE]
        have HE := Lib.hid hE
        clear hE
        go_wp2_with (go_at_call 62; refine (chk4_any w _ _ _ _ P h0 HP.out.1 HBl.out (by omega) (by omega) (HO.out (by omega)) (HF.out (by omega)) (fun k hk => firstP_zero (f := ordErr P) (by rw [HS.out.2.1 (by omega)]) k hk)).mono ?_; rintro e w' ⟨rfl, hg⟩)
        go_ret2
        refine ⟨?_, HBl.out.grown hg HBl.out.size (fun k e => by cases e; omega)⟩
        have hd : checkD P = (firstNZ (overErr P) P.n, 0) := by unfold checkD orElse; rw [if_pos (HS.out.1 (by omega)), HS.out.2.1 (by omega), if_pos rfl, if_neg HE.out]
        rw [hd]; rfl
    · have hvl := lenErr_ok (HS.out.1 (by omega))
      have HV := Lib.hid hvl
      clear hvl
      by_cases hE : (firstP (genErr P) P.n).1 = 0
      · have d1 : ((firstP (genErr P) P.n).1 != 0) = false := by simp [hE]
        have HE := Lib.hid hE
        clear hE
        go_wp2_with (go_at_call 63; refine (chk5_any _ _ _ _ _ v1 v2 P HN.out HL.out h0 h1 h2 HP'.out HV.out.1 HV.out.2.1 HV.out.2.2).mono ?_; rintro e w' ⟨rfl, q, rfl⟩)
        go_roundw
        case rel => exact ⟨4, by omega, by go_num, ⟨fun _ => HS.out.1 (by omega), fun _ => HS.out.2.1 (by omega), fun _ => HS.out.2.2.1 (by omega), fun _ => firstP_ok HE.out⟩, h0, h1, h2, HN.out, HL.out, fun h => absurd h (by omega), fun h => absurd h (by omega), k0, k1, k2, k3, below_drewN HBl.out _⟩
        case measure => simp [intOf]
      · have d1 : ((firstP (genErr P) P.n).1 != 0) = true := by simp [hE]
        have HE := Lib.hid hE
        clear hE
        go_wp2_with (go_at_call 63; refine (chk5_any _ _ _ _ _ v1 v2 P HN.out HL.out h0 h1 h2 HP'.out HV.out.1 HV.out.2.1 HV.out.2.2).mono ?_; rintro e w' ⟨rfl, q, rfl⟩)
        go_ret2
        refine ⟨?_, below_drewN HBl.out _⟩
        have hd : checkD P = firstP (genErr P) P.n := by unfold checkD orElse; rw [if_pos (HS.out.1 (by omega)), HS.out.2.1 (by omega), if_pos rfl, if_pos (HS.out.2.2.1 (by omega))]
        rw [hd]; rfl
    · have hd : checkD P = (0, 0) := by unfold checkD orElse; rw [if_pos (HS.out.1 (by omega)), HS.out.2.1 (by omega), if_pos rfl, if_pos (HS.out.2.2.1 (by omega)), HS.out.2.2.2 (by omega)]
      have HD := Lib.hid hd
      clear hd
      go_wp2_with fail
      go_ret2
      rw [HD.out]
      exact ⟨rfl, HBl.out⟩
end Go.Proofs
