/- The reference's Consistent, New, Order, for every presentation; collect.Relations, and the reference's, where there are no relators; Plain: how many relators, how many letters; small facts on RelSt; The reference's back; Laws for the reference's Relations: a word laid behind the row; append of an owned slice; The reference's Relations. -/
import Derived.Test.YtnhoiompdjabbaaA12
import Derived.Test.YtnhoiompdjabbaaA13
import Derived.Test.YtnhoiompdjabbaaA11
namespace Go.Proofs
open Go.RowKit Go.Proofs.Pc

section
variable {ops : Array Oper} {rest : List Oper} {o : Oper} {a : Act} {w w' : World} {Q : Exit → Act → World → Prop}
theorem wpList_selStore (T : TypeId) (x y : Nat) {t : TypeId} {p : String} {af : Array Edge} {g : Option (Nat × Bool)} (h : wpList Try.prog ops Q (⟨none, .store T (.tmp x) (.tmp y), t, p, af, g⟩ :: rest) a w) : wpList Try.prog ops Q (⟨none, .store T (.tmp x) (.tmp y), t, p, af, g⟩ :: rest) a w := h
theorem wpList_skip (hg : o.guard = none) (hrun : (execOp a.eval o).run Try.prog w = .ok .skip w') (h : wpList Try.prog ops Q rest (a.put o.dst undef) w') : wpList Try.prog ops Q (o :: rest) a w :=
  wpList_plain hg fun _ hK => by
    unfold Oper.wp
    rw [hrun]
    exact hK _ _ h
end

theorem checkRef_ok {P : PcD} (w : World) (v0 v1 v2 : Value) (hP : PcAt w v0 v1 v2 P) (he : (checkD P).1 = 0) :
    Calls Try.prog 24 #[.agg #[v0, v1, v2]] w fun e w'' => e = .returned (.tuple #[.int .i64 0, .int .i64 0]) ∧ Below w.heap.size w w'' :=
  (checkRef_any w v0 v1 v2 P hP).mono fun e w' ⟨h1, h2⟩ => by
    have : checkD P = (0, 0) := by
      obtain ⟨a, b, c, d⟩ := checkD_ok he
      unfold checkD orElse; rw [if_pos a, b, if_pos rfl, if_pos c, d]
    rw [this] at h1
    exact ⟨h1, h2⟩
theorem cons15_good {P : PcD} (w : World) (v0 v1 v2 : Value) (hP : PcAt w v0 v1 v2 P) (he : (checkD P).1 = 0) :
    Calls Try.prog 15 #[.agg #[v0, v1, v2]] w fun e w' => e = .returned (.tuple #[.bool (consB P), .int .i64 0]) ∧ Below w.heap.size w w' :=
  consRef_good (valid_of_check he) w v0 v1 v2 hP (fun w' hb => checkRef_ok w' v0 v1 v2 (hP.below hb) he)
set_option maxRecDepth 100000 in
set_option maxHeartbeats 400000 in
theorem cons15_bad {P : PcD} (w : World) (v0 v1 v2 : Value) (hP : PcAt w v0 v1 v2 P) (he : (checkD P).1 ≠ 0) :
    Calls Try.prog 15 #[.agg #[v0, v1, v2]] w fun e w' => e = .returned (.tuple #[.bool false, .int .i64 (checkD P).1]) ∧ Below w.heap.size w w' := by
  have d1 : ((checkD P).1 != 0) = true := by simp [he]
  have hb0 : Below w.heap.size w (w.alloc (.cells #[v0, v1, v2] 26)) := (Below.refl _ _).alloc (Nat.le_refl _) _
  have HC := Lib.hid (checkRef_any _ v0 v1 v2 P (hP.below hb0))
  obtain ⟨⟨A0, c0, rfl⟩, ⟨A1, c1, rfl⟩, A2, c2, rfl⟩ := pc_slices hP
  have HB := Lib.hid hb0
  clear hP he hb0
  go_enter Try.func15, Try.ntmps15
  go_wp2_with (go_at_call 24; (refine HC.out.mono ?_); rintro e w' ⟨rfl, hb⟩)
  go_ret2
  exact ⟨rfl, HB.out.trans (hb.mono (by simp))⟩

/-- block bh is the reference's group of P -/
def RGrpAt (w : World) (bh : Nat) (P : PcD) : Prop := ∃ u0 u1 u2, w.heap[bh]? = some (.cells #[u0, u1, u2] 80 (0, 0)) ∧ PcAt w u0 u1 u2 P
theorem RGrpAt.below {w w' : World} {bh : Nat} {P : PcD} (h : RGrpAt w bh P) (hb : Below w.heap.size w w') : RGrpAt w' bh P := by
  obtain ⟨u0, u1, u2, h1, h3⟩ := h
  exact ⟨u0, u1, u2, (hb.block _ (Array.getElem?_eq_some_iff.1 h1).1).trans h1, h3.below hb⟩
set_option maxRecDepth 100000 in
set_option maxHeartbeats 400000 in
theorem new17_bad {P : PcD} (w : World) (v0 v1 v2 : Value) (hP : PcAt w v0 v1 v2 P) (he : (checkD P).1 ≠ 0) :
    Calls Try.prog 17 #[.agg #[v0, v1, v2]] w fun e w' => e = .returned (.tuple #[.pointer none, .int .i64 (checkD P).1]) ∧ Below w.heap.size w w' := by
  have d1 : ((checkD P).1 != 0) = true := by simp [he]
  have hb0 : Below w.heap.size w (w.alloc (.cells #[v0, v1, v2] 26)) := (Below.refl _ _).alloc (Nat.le_refl _) _
  have HC := Lib.hid (cons15_bad _ v0 v1 v2 (hP.below hb0) he)
  obtain ⟨⟨A0, c0, rfl⟩, ⟨A1, c1, rfl⟩, A2, c2, rfl⟩ := pc_slices hP
  have HB := Lib.hid hb0
  clear hP he hb0
  go_enter Try.func17, Try.ntmps17
  go_wp2_with (go_at_call 15; (refine HC.out.mono ?_); rintro e w' ⟨rfl, hb⟩)
  go_ret2
  exact ⟨rfl, HB.out.trans (hb.mono (by simp))⟩
set_option maxRecDepth 100000 in
set_option maxHeartbeats 400000 in
theorem new17_inc {P : PcD} (w : World) (v0 v1 v2 : Value) (hP : PcAt w v0 v1 v2 P) (he : (checkD P).1 = 0) (hc : consB P = false) :
    Calls Try.prog 17 #[.agg #[v0, v1, v2]] w fun e w' => e = .returned (.tuple #[.pointer none, .int .i64 13]) ∧ Below w.heap.size w w' := by
  have hb0 : Below w.heap.size w (w.alloc (.cells #[v0, v1, v2] 26)) := (Below.refl _ _).alloc (Nat.le_refl _) _
  have hC := cons15_good _ v0 v1 v2 (hP.below hb0) he
  rw [hc] at hC
  have HC := Lib.hid hC
  obtain ⟨⟨A0, c0, rfl⟩, ⟨A1, c1, rfl⟩, A2, c2, rfl⟩ := pc_slices hP
  have HB := Lib.hid hb0
  clear hP he hb0 hC hc
  go_enter Try.func17, Try.ntmps17
  go_wp2_with (go_at_call 15; (refine HC.out.mono ?_); rintro e w' ⟨rfl, hb⟩)
  go_ret2
  exact ⟨rfl, HB.out.trans (hb.mono (by simp))⟩
set_option maxRecDepth 100000 in
set_option maxHeartbeats 400000 in
theorem new17_good {P : PcD} (w : World) (v0 v1 v2 : Value) (hP : PcAt w v0 v1 v2 P) (he : (checkD P).1 = 0) (hc : consB P = true) :
    Calls Try.prog 17 #[.agg #[v0, v1, v2]] w fun e w' => (∃ bh, e = .returned (.tuple #[.pointer (some ⟨bh, 0, none⟩), .int .i64 0]) ∧ RGrpAt w' bh P) ∧ Below w.heap.size w w' := by
  have hb0 : Below w.heap.size w (w.alloc (.cells #[v0, v1, v2] 26)) := (Below.refl _ _).alloc (Nat.le_refl _) _
  have hC := cons15_good _ v0 v1 v2 (hP.below hb0) he
  rw [hc] at hC
  have HC := Lib.hid hC
  have HP := Lib.hid hP
  obtain ⟨⟨A0, c0, rfl⟩, ⟨A1, c1, rfl⟩, A2, c2, rfl⟩ := pc_slices hP
  have hrw := heap_alloc_new w (.cells #[.slice A0 P.orders.length c0, .slice A1 P.powers.length c1, .slice A2 P.conj.length c2] 26)
  have HB := Lib.hid hb0
  clear hP he hb0 hC hc
  go_enter Try.func17, Try.ntmps17
  go_wp2_with (first
    | (go_at_call 15; (refine HC.out.mono ?_); rintro e w2 ⟨rfl, hb⟩
       have hrow := (hb.block w.heap.size (by simp)).trans hrw
       have k0 := cell_of_row _ _ 0 _ _ _ hrow
       have k1 := cell_of_row _ _ 1 _ _ _ hrow
       have k2 := cell_of_row _ _ 2 _ _ _ hrow
       simp only [List.getElem?_toArray, List.getElem?_cons_zero, List.getElem?_cons_succ] at k0 k1 k2
       have HB2 := Lib.hid (HB.out.trans (hb.mono (by simp)))
       clear hb hrow))
  go_ret2
  have hal : Below w2.heap.size w2 (w2.alloc (.cells #[.slice A0 P.orders.length c0, .slice A1 P.powers.length c1, .slice A2 P.conj.length c2] 80)) := (Below.refl _ _).alloc (Nat.le_refl _) _
  exact ⟨⟨_, rfl, _, _, _, heap_alloc_new _ _, HP.out.below (HB2.out.trans (hal.mono HB2.out.size))⟩, HB2.out.alloc HB2.out.size _⟩

set_option maxRecDepth 100000 in
set_option maxHeartbeats 400000 in
theorem order19_any {P : PcD} (hs : Small P) (w : World) (bh : Nat) (hg : RGrpAt w bh P) :
    Calls Try.prog 19 #[.pointer (some ⟨bh, 0, none⟩)] w fun e w' => e = .returned (.int .i64 (prod P P.n)) ∧ w' = w := by
  obtain ⟨u0, u1, u2, hh, hP⟩ := hg
  obtain ⟨A0, c0, rfl, hcx0, hmx0, hr0⟩ := hP.1.open_
  have k0 : w.cell? ⟨bh, 0, none⟩ = some (.slice A0 P.orders.length c0) := by rw [cell_of_row _ _ _ _ _ _ hh]; rfl
  have HR0 := Lib.hid hr0
  clear hr0 hP hh
  go_enter Try.func19, Try.ntmps19
  go_wp2_with fail
  go_loop [3, 4] (fun s i => ∃ k : Nat, k ≤ P.orders.length ∧ i = .int .i64 k ∧ s = .int .i64 (prod P k)) (fun _ i => P.orders.length - (intOf i).toNat)
  case atStart => exact ⟨0, Nat.zero_le _, rfl, rfl⟩
  case round =>
    obtain ⟨k, hk, rfl, rfl⟩ := hrel
    by_cases hlt : k < P.orders.length
    · obtain ⟨b0, o0, rfl, hc⟩ := HR0.out (by omega)
      have hck := hc k hlt
      have hm := hs (k + 1) (show k + 1 ≤ P.orders.length by omega)
      have hmw : IntKind.i64.wrap (prod P k * P.orders.getD k 0) = prod P k * P.orders.getD k 0 := IntWalk.i64_in _ (by show _ ≤ prod P (k + 1) ∧ prod P (k + 1) ≤ _; omega)
      have hst : prod P (k + 1) = prod P k * P.orders.getD k 0 := rfl
      have hk0 : (0 : Int) ≤ (k : Int) := Int.natCast_nonneg _
      have hk1 : (k : Int) < (P.orders.length : Int) := by omega
      have HST := Lib.hid hst
      clear hc hm hst
      generalize prod P k = a at *
      generalize P.orders.getD k 0 = y at *
      go_wp2_with fail
      go_round
      case rel => exact ⟨k + 1, by omega, by go_num, by rw [HST.out]⟩
      case measure => simp [intOf]; omega
    · obtain rfl : k = P.orders.length := by omega
      go_wp2_with fail
      go_ret
      exact ⟨rfl, rfl⟩

theorem small_of_check {P : PcD} (he : (checkD P).1 = 0) : Small P := fun k hk => by
  obtain ⟨a, b, c, d⟩ := checkD_ok he
  have : firstNZ (overErr P) k = 0 := by
    have hz := firstNZ_zero c
    clear he a b d c
    induction k with
    | zero => rfl
    | succ k ih => exact firstNZ_step (ih (by omega)) (hz k (by omega))
  exact prod_bd k this b hk

set_option maxRecDepth 100000 in
set_option maxHeartbeats 400000 in
theorem pc_live {P : PcD} (hv : Valid P) (w : World) (bg br : Nat) (hg : GrpAt w bg br P) :
    Calls Try.prog 21 #[.pointer (some ⟨bg, 0, none⟩)] w fun e w' => (∃ u0 u1 u2, e = .returned (.agg #[u0, u1, u2]) ∧ PcAt w' u0 u1 u2 P) ∧ Below w.heap.size w w' := by
  have hb1 : Below w.heap.size w (w.alloc (.cells #[.slice none 0 0, .slice none 0 0, .slice none 0 0] 26)) := (Below.refl _ _).alloc (Nat.le_refl _) _
  have hg1 := hg.below hb1
  have hl := hg1.live
  have hln := heap_alloc_new w (.cells #[.slice none 0 0, .slice none 0 0, .slice none 0 0] 26)
  obtain ⟨u0, u1, u2, hh, hr, hP⟩ := hg1
  have k1 := cell_of_row _ _ 1 _ _ _ hh
  have k2 := cell_of_row _ _ 2 _ _ _ hh
  have k3 := cell_of_row _ _ 3 _ _ _ hh
  simp only [List.getElem?_toArray, List.getElem?_cons_zero, List.getElem?_cons_succ] at k1 k2 k3
  have HC := Lib.hid (copied_validT hv _ u0 u1 u2 hP)
  have HL := Lib.hid hl
  have HB := Lib.hid hb1
  have HN := Lib.hid hln
  obtain ⟨⟨A0, c0, rfl⟩, ⟨A1, c1, rfl⟩, A2, c2, rfl⟩ := pc_slices hP
  clear hg hl hln hh hr hP hb1
  go_enter Try.func21, Try.ntmps21
  go_wp2_with (first
    | (go_at_call 54; (refine (valid_live _ bg br HL.out).mono ?_); rintro e w' ⟨rfl, rfl⟩)
    | (go_at_call 53; (refine HC.out.mono ?_); rintro e w2 ⟨⟨x0, x1, x2, rfl, hp2⟩, hb2⟩
       have hrow := (hb2.block w.heap.size (by simp)).trans HN.out
       have HP2 := Lib.hid hp2
       have HB2 := Lib.hid hb2
       clear hp2 hb2
       obtain ⟨⟨B0, d0, rfl⟩, ⟨B1, d1, rfl⟩, B2, d2, rfl⟩ := pc_slices HP2.out.at_
       have h1c : #[Value.slice B0 P.orders.length d0, Value.slice B1 P.powers.length d1, Value.slice B2 P.conj.length d2].all (·.oneCell') = true := by simp [Value.oneCell']
       have hfin := setRow_heap w2 w.heap.size _ #[Value.slice B0 P.orders.length d0, Value.slice B1 P.powers.length d1, Value.slice B2 P.conj.length d2] 26 (0, 0) hrow)
    | ((with_reducible refine wpList_selStore 26 2 11 ?_); refine wpList_skip rfl (r_store26 (.tmp 2) (.tmp 11) rfl w.heap.size _ #[Value.slice B0 P.orders.length d0, Value.slice B1 P.powers.length d1, Value.slice B2 P.conj.length d2] rfl rfl hrow info26s rfl h1c) ?_))
  have hbs : Below w.heap.size w (w2.setRow w.heap.size #[Value.slice B0 P.orders.length d0, Value.slice B1 P.powers.length d1, Value.slice B2 P.conj.length d2]) :=
    (HB.out.trans (HB2.out.mono HB.out.size)).trans ⟨rfl, rfl, rfl, by rw [World.setRow]; simp, fun k hk => setRow_other w2 _ k _ (by omega)⟩
  refine bodyPost_ret (results_cell_row (P := Try.prog) (p := 2) rfl _ _ w.heap.size 26 _ (0, 0) _ rfl hfin Try.underlying26 rfl (by kernel_rfl)) rfl ⟨⟨_, _, _, rfl, HP2.out _ (fun k C t fr ht hk => ?_)⟩, hbs⟩
  rw [setRow_other w2 _ k _ (fun e => by subst e; rw [hrow] at hk; cases hk; simp at ht)]; exact hk
end Go.Proofs
namespace Go.Proofs.Pc
/-- what Relations returns: code, generators, relators -/
def relsD (P : PcD) : Int × Int × List (List Int) :=
  if (checkD P).1 ≠ 0 then ((checkD P).1, 0, []) else if P.n = 0 then (2, 0, []) else if tot (rels P) > 4000 then (4, 0, []) else (0, P.n, rels P)
end Go.Proofs.Pc
namespace Go.Proofs
open Go.RowKit Go.Proofs.Pc

def RelPost (P : PcD) (w : World) (e : Ending) (w' : World) : Prop :=
  ∃ va, e = .returned (.tuple #[.agg #[.int .i64 (relsD P).2.1, va], .int .i64 (relsD P).1]) ∧ Tab w' va (relsD P).2.2 ∧ Below w.heap.size w w'
theorem tab_nil {w : World} : Tab w (.slice none 0 0) [] := ⟨[], ⟨none, 0, 0, rfl, rfl, Nat.le_refl _, by simp [maxLen], fun h => absurd h (by omega)⟩, rfl, fun i hi => absurd hi (by simp)⟩

theorem info46s : (Try.prog.info? 46).map (·.size) = some 2 := by kernel_rfl
theorem r_store46 {o : Oper} {a : Act} {w : World} (x y : Operand) (ho : o.op = .store 46 x y) (g : Nat) (old c' : Array Value) (hx : a.eval x = .pointer (some ⟨g, 0, none⟩)) (hy : a.eval y = .agg c') (hg : w.heap[g]? = some (.cells old 46 (0, 0)))
    (hi : c'.size = 2) (hoo : old.size = 2) (h1 : c'.all (·.oneCell') = true) : (execOp a.eval o).run Try.prog w = .ok .skip (w.setRow g c') := by
  unfold execOp
  simp only [ho, hx, hy, Instr.storeAt, Instr.sureAddr, Sem.run_bind, Sem.run_pure, Result.andThen_ok, run_storeVar_row w g 46 46 old c' hg (by rw [hi]; exact info46s) (by rw [hi, hoo]) h1]
theorem build46 (w : World) : (Instr.build 46 #[]).run Try.prog w = .ok (.agg #[.int .i64 0, .slice none 0 0]) w := by kernel_rfl
theorem r_build46 {o : Oper} {a : Act} {w : World} (ho : o.op = .build 46 #[]) : (execOp a.eval o).run Try.prog w = .ok (.value (.agg #[.int .i64 0, .slice none 0 0])) w := by
  have hb := build46 w
  unfold execOp
  simp only [ho, List.map_toArray, List.map_nil, Sem.run_bind, hb, Result.andThen_ok]
  rfl
theorem one46 : (#[Value.int .i64 0, Value.slice none 0 0] : Array Value).all (·.oneCell') = true := by simp [Value.oneCell']
theorem results_46_tmp {fn : Func} {p q : Tmp} (h : fn.results = #[.cell p 46, .tmp q]) (tmps : Array Value) (w : World) (g : Nat) (cs : Array Value) (u : Value)
    (hp : tmps.getD p undef = .pointer (some ⟨g, 0, none⟩)) (hq : tmps.getD q undef = u) (hg : w.heap[g]? = some (.cells cs 46 (0, 0))) (hs : cs.size = 2) :
    (results fn tmps).run Try.prog w = .ok (.tuple #[.agg cs, u]) w := by
  have hp' : tmps[p]?.getD undef = .pointer (some ⟨g, 0, none⟩) := by simpa using hp
  have hq' : tmps[q]?.getD undef = u := by simpa using hq
  simp [results, h, hp', hq', asAddr, run_loadVar_row w g 46 46 cs (0, 0) _ hg Try.underlying46 rfl (by rw [hs]; exact info46s)]

set_option maxRecDepth 100000 in
set_option maxHeartbeats 1000000 in
theorem rel_bad (w : World) (v0 v1 v2 : Value) (P : PcD) (hP : PcAt w v0 v1 v2 P) (he : (checkD P).1 ≠ 0) :
    Calls Try.prog 25 #[.agg #[v0, v1, v2]] w (RelPost P w) := by
  have d1 : ((checkD P).1 != 0) = true := by simp [he]
  have HD := Lib.hid (show relsD P = ((checkD P).1, 0, []) from if_pos he)
  have hb : Below w.heap.size w ((w.alloc (.cells #[v0, v1, v2] 26)).alloc (.cells #[.int .i64 0, .slice none 0 0] 46)) := allocs_below [.cells #[v0, v1, v2] 26, .cells #[.int .i64 0, .slice none 0 0] 46] w _ (Nat.le_refl _)
  have hg := allocs_get [.cells #[v0, v1, v2] 26, .cells #[.int .i64 0, .slice none 0 0] 46] w 1 _ rfl
  have HC := Lib.hid (of_bad _ v0 v1 v2 P (hP.below hb) he)
  have hsz : ((w.alloc (.cells #[v0, v1, v2] 26)).alloc (.cells #[.int .i64 0, .slice none 0 0] 46)).heap.size = w.heap.size + 2 := by simp
  have HB := Lib.hid hb
  have HG : Hid (((w.alloc (.cells #[v0, v1, v2] 26)).alloc (.cells #[.int .i64 0, .slice none 0 0] 46)).heap[w.heap.size + 1]? = some (.cells #[.int .i64 0, .slice none 0 0] 46 (0, 0))) := Lib.hid hg
  clear he hP hb hg
  go_enter Try.func25, Try.ntmps25
  go_wp2_with (first
    | (go_at_call 47
       (refine HC.out.mono ?_)
       rintro e w2 ⟨rfl, hb2⟩
       have hg2 : w2.heap[w.heap.size + 1]? = some (.cells #[.int .i64 0, .slice none 0 0] 46 (0, 0)) := (hb2.block _ (by rw [hsz]; omega)).trans HG.out
       have HG2 : Hid (∀ o, (w2.alloc o).heap[w.heap.size + 1]? = some (.cells #[.int .i64 0, .slice none 0 0] 46 (0, 0))) := Lib.hid (fun o => (((Below.refl _ w2).alloc (Nat.le_refl _) o).block _ (Array.getElem?_eq_some_iff.1 hg2).1).trans hg2)
       have HB2 := Lib.hid (HB.out.trans (hb2.mono (by rw [hsz]; omega)))
       clear hg2 hb2)
    | ((with_reducible refine wpList_sel 19 ?_); refine wpList_val rfl (r_build46 rfl) ?_; refine wpList_val rfl (r_move (.tmp 5) rfl rfl) ?_; refine wpList_skip rfl (r_store46 (.tmp 2) (.tmp 19) rfl (w.heap.size + 1) _ #[.int .i64 0, .slice none 0 0] rfl rfl (HG2.out _) rfl rfl one46) ?_))
  try simp only [Exit.inBlock, Exit.then]
  refine bodyPost_ret (results_46_tmp (p := 2) (q := 3) rfl _ _ (w.heap.size + 1) #[.int .i64 0, .slice none 0 0] (.int .i64 (checkD P).1) rfl rfl (setRow_heap _ _ _ _ _ _ (HG2.out _)) rfl) rfl ⟨.slice none 0 0, ?_, ?_, ?_⟩
  · rw [HD.out]
  · rw [HD.out]; exact tab_nil
  · exact (HB2.out.alloc HB2.out.size _).trans ⟨rfl, rfl, rfl, by rw [World.setRow]; simp, fun k hk => setRow_other _ _ k _ (by omega)⟩
end Go.Proofs
namespace Go.Proofs.Pc
theorem back_len {y : V} {n : Nat} (hy : ∀ k, k < n → 0 ≤ y.getD k 0 ∧ y.getD k 0 ≤ 1000) (hn : n ≤ 12) : (back y n).length ≤ 12000 := by
  have := backTo_len y n hy n (Nat.le_refl _)
  unfold back; omega
/-- no more than m words, each of at most 13000 letters -/
def Few (l : List (List Int)) (m : Nat) : Prop := l.length ≤ m ∧ tot l ≤ 13000 * (m : Int)
theorem Few.nil (m : Nat) : Few [] m := ⟨Nat.zero_le _, by simp [tot]; omega⟩
theorem Few.snoc {l : List (List Int)} {m : Nat} {x : List Int} (h : Few l m) (hx : x.length ≤ 13000) : Few (l ++ [x]) (m + 1) :=
  ⟨by have := h.1; simp; omega, by have := h.2; rw [tot_snoc]; omega⟩
theorem Few.app {l l' : List (List Int)} {m m' : Nat} (h : Few l m) (h' : Few l' m') : Few (l ++ l') (m + m') :=
  ⟨by have := h.1; have := h'.1; simp; omega, by have := h.2; have := h'.2; rw [tot_app]; omega⟩
theorem Few.mono {l : List (List Int)} {m m' : Nat} (h : Few l m) (hm : m ≤ m') : Few l m' := ⟨by have := h.1; omega, by have := h.2; omega⟩
theorem NV.le {P : PcD} (hv : Valid P) {y : V} (hy : NV P y) : ∀ k, k < P.n → 0 ≤ y.getD k 0 ∧ y.getD k 0 ≤ 1000 := fun k hk => by
  have h1 := hy.2 k hk
  have h2 := hv.ord2 k hk
  omega
theorem pow_le {P : PcD} (hv : Valid P) {i : Nat} (hi : i < P.n) : ∀ k, k < P.n → 0 ≤ (P.pow i).getD k 0 ∧ (P.pow i).getD k 0 ≤ 1000 := NV.le hv (norm_NV (hv.pow i hi))
theorem cj_le {P : PcD} (hv : Valid P) {j i : Nat} (hj : j < P.n) (hi : i < j) : ∀ k, k < P.n → 0 ≤ (P.cj j i).getD k 0 ∧ (P.cj j i).getD k 0 ≤ 1000 := NV.le hv (norm_NV (hv.cj j hj i hi))
theorem few_I {P : PcD} (hv : Valid P) : ∀ m, m ≤ P.n → Few (relsI P m) m
  | 0, _ => Few.nil 0
  | m + 1, hm => by
    refine Few.snoc (few_I hv m (by omega)) ?_
    have h1 := hv.ord2 m (by omega)
    have h2 := back_len (pow_le hv (i := m) (by omega)) hv.n12
    unfold relW
    rw [List.length_append, List.length_replicate]; omega
theorem few_J {P : PcD} (hv : Valid P) {j : Nat} (hj : j < P.n) : ∀ m, m ≤ j → Few (relsJ P j m) m
  | 0, _ => Few.nil 0
  | m + 1, hm => by
    refine Few.snoc (few_J hv hj m (by omega)) ?_
    have h2 := back_len (cj_le hv hj (i := m) (by omega)) hv.n12
    unfold relC
    rw [List.length_append]; simp; omega
theorem few_C {P : PcD} (hv : Valid P) : ∀ m, m ≤ P.n → Few (relsC P m) (12 * m)
  | 0, _ => Few.nil 0
  | m + 1, hm => by
    have := hv.n12
    exact (few_C hv m (by omega)).app ((few_J hv (j := m) (by omega) m (Nat.le_refl _)).mono (m' := 12) (by omega))
end Go.Proofs.Pc
namespace Go.Proofs
open Go.RowKit Go.Proofs.Pc

theorem r_load46 {o : Oper} {a : Act} {w : World} (x : Operand) (b : Nat) (v0 v1 : Value) (ho : o.op = .load 46 x) (hx : a.eval x = .pointer (some ⟨b, 0, none⟩)) (hc : w.heap[b]? = some (.cells #[v0, v1] 46 (0, 0))) : (execOp a.eval o).run Try.prog w = .ok (.value (.agg #[v0, v1])) w := by
  have h := run_loadVar_row (P := Try.prog) w b 46 46 #[v0, v1] (0, 0) _ hc Try.underlying46 rfl info46s
  unfold execOp
  simp only [ho, hx, Instr.loadAt, Instr.sureAddr, Sem.run_bind, Sem.run_pure, Result.andThen_ok, h]
theorem owns_rep {w : World} {g B q : Nat} {x : Int} (hg : w.heap[g]? = some (.cells (rp x q q).toArray 3 (0, 0))) (hB : B ≤ g) (hq : q ≤ 1000) : w.ownsRow B 3 1 (.slice (some ⟨g, 0, none⟩) q q) (List.replicate q x).length (ints (List.replicate q x)) := by
  rw [List.length_replicate, ints_rep, ← rp_full]
  refine ⟨by rw [length_rp _ (Nat.le_refl _), Nat.mul_one], .inr ⟨g, q, _, rfl, hB, hg, Nat.le_refl _, by unfold maxLen; omega, by rw [List.size_toArray, length_rp _ (Nat.le_refl _), Nat.mul_one], ?_⟩⟩
  rw [Nat.mul_one]
  exact List.take_of_length_le (by rw [length_rp _ (Nat.le_refl _)]; exact Nat.le_refl _)
theorem owns_three {w : World} {g B : Nat} {x y z : Int} (hg : w.heap[g]? = some (.cells #[.int .i64 x, .int .i64 y, .int .i64 z] 3 (0, 0))) (hB : B ≤ g) : w.ownsRow B 3 1 (.slice (some ⟨g, 0, none⟩) 3 3) [x, y, z].length (ints [x, y, z]) :=
  ⟨rfl, .inr ⟨g, 3, _, rfl, hB, hg, Nat.le_refl _, by simp [maxLen], rfl, rfl⟩⟩
theorem RelSt.to_below {lo hi m : Nat} {w0 w : World} {L O : Nat} {n : Int} {rs : List (List Int)} (h : RelSt lo hi w0 w L O n rs) (h0 : w0.heap.size ≤ lo) (hm : m ≤ lo) (hL : m ≤ L) (hO : m ≤ O) : Below m w0 w :=
  ⟨h.os, h.tape, h.output, by have := h.lh; have := h.hs; omega, fun k hk => h.old k (by omega) (by omega) (by omega)⟩
theorem RelSt.start {lo : Nat} {w0 : World} {L O : Nat} {n : Int} (h0 : w0.heap.size = lo) (hO : w0.heap[O]? = some (.cells #[.int .i64 n, .slice none 0 0] 46 (0, 0))) : RelSt lo w0.heap.size w0 w0 L O n [] :=
  ⟨rfl, rfl, rfl, by omega, Nat.le_refl _, fun _ _ _ _ => rfl, none, 0, [], hO, World.ownsRow_nil _ _ _ _, (fun r hr => nomatch hr), (fun j hj => absurd hj (Nat.not_lt_zero j))⟩
/-- the words, read in a later world -/
theorem RelSt.tab {lo hi : Nat} {w0 w w' : World} {L O : Nat} {n : Int} {rs : List (List Int)} (h : RelSt lo hi w0 w L O n rs) (hk : ∀ k, lo ≤ k → k < w.heap.size → w'.heap[k]? = w.heap[k]?) : ∃ A c, w.heap[O]? = some (.cells #[.int .i64 n, .slice A rs.length c] 46 (0, 0)) ∧ Tab w' (.slice A rs.length c) rs := by
  obtain ⟨A, c, vals, ho, hw, hr, hv⟩ := h.out
  refine ⟨A, c, ho, vals, sl_of_owns (owns_keep hw fun r hr' => hk r (owns_block hw r hr').1 (by have := hr r hr'; have := h.hs; omega)), by simpa using hw.1, fun i hi' => ?_⟩
  obtain ⟨u, hu, hx⟩ := hv i hi'
  exact ⟨u, hu, hx w' fun k C fr h1 h2 h3 => (hk k h1 (by have := h.hs; omega)).trans h3⟩
end Go.Proofs
namespace Go.Proofs
open Go.RowKit Go.Proofs.Pc

theorem backTo_more {y : V} {N i q : Nat} (hi : i < N) (hq : y.getD i 0 = (q : Int)) : backTo y N (N - (i + 1)) ++ List.replicate q (-(i : Int) - 1) = backTo y N (N - i) := by
  rw [backTo_step y hi, hq]; rfl

set_option maxRecDepth 100000 in
set_option maxHeartbeats 1000000 in
theorem back_any (w : World) (v : Value) (y : List Int) (h : IntsAt w v y) (hl : y.length ≤ 12) (hy : ∀ k, k < y.length → 0 ≤ y.getD k 0 ∧ y.getD k 0 ≤ 1000) :
    Calls Try.prog 67 #[v] w fun e w' => ∃ A c, e = .returned (.slice A (back y y.length).length c) ∧ w'.ownsRow w.heap.size 3 1 (.slice A (back y y.length).length c) (back y y.length).length (ints (back y y.length)) ∧ Below w.heap.size w w' := by
  obtain ⟨A0, c0, rfl, h1, h2, h3⟩ := h.open_
  have HX := Lib.hid h3
  have HY := Lib.hid hy
  have hll : (y.length : Int) ≤ 12 := by omega
  have hl0 : (0 : Int) ≤ (y.length : Int) := Int.natCast_nonneg _
  obtain ⟨i3, hi3, hz3, hs3, hb3⟩ := info3p
  clear h h3 hy
  generalize hN : y.length = N at *
  go_enter Try.func67, Try.ntmps67
  go_wp2_with fail
  go_loopw [3, 4] (fun s3 s4 wr => ∃ j A c, j ≤ N ∧ s3 = .slice A (backTo y N (N - j)).length c ∧ s4 = .int .i64 ((j : Int) - 1) ∧ wr.ownsRow w.heap.size 3 1 (.slice A (backTo y N (N - j)).length c) (backTo y N (N - j)).length (ints (backTo y N (N - j))) ∧ Below w.heap.size w wr) (fun _ s4 _ => (intOf s4 + 1).toNat)
  case atStart =>
    refine ⟨N, none, 0, Nat.le_refl _, ?_, by go_num, ?_, Below.refl _ _⟩
    · rw [Nat.sub_self]; rfl
    · rw [Nat.sub_self]; exact World.ownsRow_nil _ _ _ _
  case round =>
    obtain ⟨j, A, c, hj, rfl, rfl, hown, hbel⟩ := hrel
    have HO := Lib.hid hown
    have HB := Lib.hid hbel
    clear hown hbel
    rename World => wa
    rcases j with _ | i
    · have d0 : ((0 : Nat) : Int) - 1 = -1 := by omega
      simp only [d0]
      have hbk : backTo y N (N - 0) = back y N := rfl
      have hO := HO.out
      rw [hbk] at hO ⊢
      have HO := Lib.hid hO
      clear hO hbk
      generalize hZ : back y N = Z at *
      have HZ := Lib.hid hZ
      clear hZ
      go_wp2_with fail
      exact bodyPost_ret (results_tmp (t := 2) rfl _ _ _) rfl ⟨A, c, by rw [HZ.out]; rfl, by rw [HZ.out]; exact HO.out, HB.out⟩
    · have d0 : ((i + 1 : Nat) : Int) - 1 = (i : Int) := by omega
      simp only [d0]
      have hi0 : (0 : Int) ≤ (i : Int) := Int.natCast_nonneg _
      have hi12 : (i : Int) < (N : Int) := by omega
      obtain ⟨b, o, rfl, hx⟩ := HX.out (by omega)
      obtain ⟨q, hq⟩ : ∃ q : Nat, y.getD i 0 = (q : Int) := ⟨(y.getD i 0).toNat, by have := (HY.out i (by omega)).1; omega⟩
      have hq1 : q ≤ 1000 := by have := (HY.out i (by omega)).2; omega
      have hcx : wa.cell? ⟨b, o + i, none⟩ = some (.int .i64 (q : Int)) := by rw [← hq]; exact (KC.of_below HB.out).cell (hx i (by omega))
      have HQ := Lib.hid hq
      have hzl : (backTo y N (N - (i + 1))).length ≤ 12000 := by
        have := backTo_len y N HY.out (N - (i + 1)) (by omega); omega
      have hst : backTo y N (N - (i + 1)) = backTo y N (N - (i + 1)) ++ List.replicate 0 (-(i : Int) - 1) := by simp
      have hO1 := HO.out
      rw [hst] at hO1
      have HO1 := Lib.hid hO1
      have HCX := Lib.hid hcx
      have HST := Lib.hid hst
      clear hst hO1 hq hx hcx HO
      go_wp2_with fail
      go_loopw [3, 5] (fun s3 s5 wr => ∃ m A c, m ≤ q ∧ s3 = .slice A (backTo y N (N - (i + 1)) ++ List.replicate m (-(i : Int) - 1)).length c ∧ s5 = .int .i64 (m : Int) ∧ wr.ownsRow w.heap.size 3 1 (.slice A (backTo y N (N - (i + 1)) ++ List.replicate m (-(i : Int) - 1)).length c) (backTo y N (N - (i + 1)) ++ List.replicate m (-(i : Int) - 1)).length (ints (backTo y N (N - (i + 1)) ++ List.replicate m (-(i : Int) - 1))) ∧ Below w.heap.size w wr) (fun _ s5 _ => q - (intOf s5).toNat)
      case atStart => exact ⟨0, A, c, Nat.zero_le _, by rw [← HST.out], rfl, HO1.out, HB.out⟩
      case round =>
        obtain ⟨m, A', c', hm, rfl, rfl, hown, hbel⟩ := hrel
        have HO := Lib.hid hown
        have HB := Lib.hid hbel
        have hcx : wr.cell? ⟨b, o + i, none⟩ = some (.int .i64 (q : Int)) := by
          obtain ⟨b', o', e, hx⟩ := HX.out (by omega)
          cases e
          rw [← HQ.out]; exact (KC.of_below HB.out).cell (hx i (by omega))
        clear hown hbel
        by_cases hmq : m < q
        · have hm0 : (0 : Int) ≤ (m : Int) := Int.natCast_nonneg _
          have hmq' : (m : Int) < (q : Int) := by omega
          have hneg : -((i : Int) + 1) = -(i : Int) - 1 := by omega
          have hsnoc : backTo y N (N - (i + 1)) ++ List.replicate (m + 1) (-(i : Int) - 1) = backTo y N (N - (i + 1)) ++ List.replicate m (-(i : Int) - 1) ++ [-(i : Int) - 1] := by
            rw [List.append_assoc, ← List.replicate_succ']
          have HSN := Lib.hid hsnoc
          have hzl2 : (backTo y N (N - (i + 1)) ++ List.replicate m (-(i : Int) - 1)).length ≤ 13000 := by rw [List.length_append, List.length_replicate]; omega
          clear hsnoc
          generalize backTo y N (N - (i + 1)) ++ List.replicate m (-(i : Int) - 1) = Z at *
          have HOA := Lib.hid (owns_below (w' := wr.alloc (.cells #[.int .i64 (-(i : Int) - 1)] 3)) HO.out ((Below.refl _ wr).alloc (Nat.le_refl _) _))
          have HN := Lib.hid (cell_one_new wr (.int .i64 (-(i : Int) - 1)) 3)
          have hsz : w.heap.size ≤ (wr.alloc (.cells #[.int .i64 (-(i : Int) - 1)] 3)).heap.size := by have := HB.out.size; simp; omega
          have HSZ := Lib.hid hsz
          clear hsz
          go_wp2_with (at_builtin
                       refine wpList_append_own_at _ rfl (.tmp 21) (.tmp 25) 50 (by rfl) w.heap.size 3 i3 (.int .i64 0) 1 8 Try.underlying50 hi3 hz3 hs3 hb3 rfl (by omega) _ _ _ rfl HOA.out _ 1 1 [.int .i64 (-(i : Int) - 1)] rfl rfl HN.out (fun u hu => by simp at hu; rw [hu]; rfl) ?_ ?_ HSZ.out ?_
                       rotate_left 2
                       intro v' w3 hown3 hgrow hnil hat)
          · obtain ⟨A2, c2, rfl⟩ := owns_form hown3
            have hl3 : (backTo y N (N - (i + 1)) ++ List.replicate (m + 1) (-(i : Int) - 1)).length = Z.length + 1 := by rw [HSN.out]; simp
            have hB3 : Below w.heap.size w w3 := (HB.out.alloc HB.out.size _).grown hgrow HSZ.out fun k hk => (owns_block HOA.out k hk).1
            refine ⟨⟨m + 1, A2, c2, by omega, by rw [hl3], by go_num, ?_, hB3⟩, by simp [intOf]; omega⟩
            rw [hl3, HSN.out, ints_app]
            exact hown3
          · unfold maxLen; omega
          · omega
        · obtain rfl : m = q := by omega
          have hbm := backTo_more (y := y) (N := N) (i := i) (q := m) (by omega) HQ.out
          have HBM := Lib.hid hbm
          clear hbm
          go_wp2_with fail
          go_roundw
          case rel => exact ⟨i, A', c', by omega, by rw [← HBM.out], by go_num, by rw [← HBM.out]; exact HO.out, HB.out⟩
          case measure => simp [intOf]
end Go.Proofs
namespace Go.Proofs
open Go.RowKit Go.Proofs.Pc

theorem row_facts {lo B : Nat} {w0 wx : World} {L O : Nat} {n : Int} {rs : List (List Int)} {A : Option Addr} {c : Nat} {Z : List Int} (hS : RelSt lo B w0 wx L O n rs) (hO : O < lo) (hw : wx.ownsRow B 3 1 (.slice A Z.length c) Z.length (ints Z)) :
    ∃ A1 c1 vals, wx.cell? ⟨O, 1, none⟩ = some (.slice A1 rs.length c1) ∧ Hid ((wx.alloc (.cells #[.slice A Z.length c] 50)).ownsRow lo 50 1 (.slice A1 rs.length c1) rs.length vals) ∧ Hid (RelSt lo B w0 (wx.alloc (.cells #[.slice A Z.length c] 50)) L O n rs) ∧
      Hid ((wx.alloc (.cells #[.slice A Z.length c] 50)).heap[O]? = some (.cells #[.int .i64 n, .slice A1 rs.length c1] 46 (0, 0))) ∧ Hid ((wx.alloc (.cells #[.slice A Z.length c] 50)).ownsRow lo 3 1 (.slice A Z.length c) Z.length (ints Z)) ∧
      Hid (∀ j, j < rs.length → ∃ u, vals[j]? = some u ∧ IntsX lo B (wx.alloc (.cells #[.slice A Z.length c] 50)) u (rs.getD j [])) ∧ Hid (lo ≤ (wx.alloc (.cells #[.slice A Z.length c] 50)).heap.size) ∧
      Hid (∀ j u, [Value.slice A Z.length c][j]? = some u → (wx.alloc (.cells #[.slice A Z.length c] 50)).cell? ((⟨wx.heap.size, 0, none⟩ : Addr).add j) = some u) := by
  have h1 := hS.lh
  have h2 := hS.hs
  have hb5 : Below wx.heap.size wx (wx.alloc (.cells #[.slice A Z.length c] 50)) := (Below.refl _ _).alloc (Nat.le_refl _) _
  obtain ⟨A1, c1, vals, hoj, hrow, hrb, hvs⟩ := hS.out
  refine ⟨A1, c1, vals, (cell_of_row _ _ 1 _ _ _ hoj).trans rfl, Lib.hid (owns_below hrow hb5), Lib.hid (hS.below hO (hb5.mono h2)), Lib.hid ((hb5.block O (by omega)).trans hoj), Lib.hid (owns_base (owns_below hw hb5) h1), Lib.hid fun j hj => ?_, Lib.hid (by have := hb5.size; omega), Lib.hid (cell_one_new wx _ 50)⟩
  obtain ⟨u, hu, hx⟩ := hvs j hj
  exact ⟨u, hu, hx.keep (Nat.le_refl _) fun k C fr _ hk hc => (hb5.block k (by omega)).trans hc⟩

theorem run_append_nil2 {P : Program} (w : World) (base : Nat) (t ty e : TypeId) (i : TypeInfo) (ht : P.underlying t = some (.slice e)) (hi : P.info? e = some i) (_hs : i.size = 1)
    (v : Value) (n : Nat) (xs : List Value) (hown : w.ownsRow base e 1 v n xs) : (Builtin.append_ #[t, t] ty #[v, .slice none 0 0]).run P w = .ok v w := by
  rcases hown.2 with ⟨rfl, rfl⟩ | ⟨g, cap, cur, rfl, _, _, hnc, _⟩
  · simp [Builtin.append_, run_underlying ht, sizeOf, typeInfo, hi, Builtin.lenOf, Builtin.firstCells]
  · simp [Builtin.append_, run_underlying ht, sizeOf, typeInfo, hi, Builtin.lenOf, Builtin.firstCells, hnc, storeCells]

/-- append(w, u...) of two owned words -/
theorem run_append_two (w : World) (ty : TypeId) (base base2 : Nat) (A A2 : Option Addr) (c c2 : Nat) (x y : List Int) (h1 : w.ownsRow base 3 1 (.slice A x.length c) x.length (ints x)) (h2 : w.ownsRow base2 3 1 (.slice A2 y.length c2) y.length (ints y))
    (hx : x.length ≤ 100000) (hy : y.length ≤ 100000) (hb : base ≤ w.heap.size) :
    ∃ A' c' w', (Builtin.append_ #[50, 50] ty #[.slice A x.length c, .slice A2 y.length c2]).run Try.prog w = .ok (.slice A' (x ++ y).length c') w' ∧ w'.ownsRow base 3 1 (.slice A' (x ++ y).length c') (x ++ y).length (ints (x ++ y)) ∧ w.grownBy w' (Value.slice A x.length c).ownBlock := by
  obtain ⟨i3, hi3, hz3, hs3, hb3⟩ := info3p
  have hl : (x ++ y).length = x.length + y.length := List.length_append
  rcases h2.2 with ⟨e, h0⟩ | ⟨g, cap, cur, e, -, hg, hnc, hcm, hcs, htake⟩
  · have hy0 : y = [] := List.length_eq_zero_iff.1 h0
    subst hy0
    rw [List.append_nil]
    rw [e]
    exact ⟨A, c, w, run_append_nil2 w base 50 ty 3 i3 Try.underlying50 hi3 hs3 _ _ _ h1, h1, World.grownBy.refl w _⟩
  · have hcells : ∀ j u, (ints y)[j]? = some u → w.cell? ((⟨g, 0, none⟩ : Addr).add j) = some u := h2.cells (g := g) (by rw [e]; rfl)
    obtain ⟨v', w', hr, hown, hgr, -, -⟩ := run_append_own_at (P := Try.prog) w base 50 ty 3 i3 (.int .i64 0) 1 8 Try.underlying50 hi3 hz3 hs3 hb3 rfl (by omega) _ _ _ h1 ⟨g, 0, none⟩ y.length cap (ints y) (by simp [ints]) hcells (fun u hu => by
      obtain ⟨z, -, rfl⟩ := List.mem_map.1 hu; rfl) (by unfold maxLen; omega) (by omega) hb
    obtain ⟨A', c', rfl⟩ := owns_form hown
    refine ⟨A', c', w', ?_, ?_, hgr⟩
    · rw [e, hr, hl]
    · rw [hl, ints_app]; exact hown
end Go.Proofs
namespace Go.Proofs
open Go.RowKit Go.Proofs.Pc

set_option maxRecDepth 100000 in
set_option maxHeartbeats 1000000 in
theorem rel26_bad (w : World) (v0 v1 v2 : Value) (P : PcD) (hP : PcAt w v0 v1 v2 P) (he : (checkD P).1 ≠ 0) :
    Calls Try.prog 26 #[.agg #[v0, v1, v2]] w (RelPost P w) := by
  have d1 : ((checkD P).1 != 0) = true := by simp [he]
  have HD := Lib.hid (show relsD P = ((checkD P).1, 0, []) from if_pos he)
  have hb : Below w.heap.size w ((w.alloc (.cells #[v0, v1, v2] 26)).alloc (.cells #[.int .i64 0, .slice none 0 0] 46)) := allocs_below [.cells #[v0, v1, v2] 26, .cells #[.int .i64 0, .slice none 0 0] 46] w _ (Nat.le_refl _)
  have hg := allocs_get [.cells #[v0, v1, v2] 26, .cells #[.int .i64 0, .slice none 0 0] 46] w 1 _ rfl
  have HC := Lib.hid (checkRef_any _ v0 v1 v2 P (hP.below hb))
  have hsz : ((w.alloc (.cells #[v0, v1, v2] 26)).alloc (.cells #[.int .i64 0, .slice none 0 0] 46)).heap.size = w.heap.size + 2 := by simp
  have HB := Lib.hid hb
  have HG : Hid (((w.alloc (.cells #[v0, v1, v2] 26)).alloc (.cells #[.int .i64 0, .slice none 0 0] 46)).heap[w.heap.size + 1]? = some (.cells #[.int .i64 0, .slice none 0 0] 46 (0, 0))) := Lib.hid hg
  clear he hP hb hg
  go_enter Try.func26, Try.ntmps26
  go_wp2_with (first
    | (go_at_call 24
       (refine HC.out.mono ?_)
       rintro e w2 ⟨rfl, hb2⟩
       have hg2 : w2.heap[w.heap.size + 1]? = some (.cells #[.int .i64 0, .slice none 0 0] 46 (0, 0)) := (hb2.block _ (by rw [hsz]; omega)).trans HG.out
       have HG2 := Lib.hid hg2
       have HB2 := Lib.hid (HB.out.trans (hb2.mono (by rw [hsz]; omega)))
       clear hg2 hb2)
    | ((with_reducible refine wpList_sel 21 ?_); refine wpList_val rfl (r_build46 rfl) ?_; refine wpList_val rfl (r_move (.tmp 4) rfl rfl) ?_; refine wpList_skip rfl (r_store46 (.tmp 2) (.tmp 21) rfl (w.heap.size + 1) _ #[.int .i64 0, .slice none 0 0] rfl rfl HG2.out rfl rfl one46) ?_))
  try simp only [Exit.inBlock, Exit.then]
  refine bodyPost_ret (results_46_tmp (p := 2) (q := 3) rfl _ _ (w.heap.size + 1) #[.int .i64 0, .slice none 0 0] (.int .i64 (checkD P).1) rfl rfl (setRow_heap _ _ _ _ _ _ HG2.out) rfl) rfl ⟨.slice none 0 0, ?_, ?_, ?_⟩
  · rw [HD.out]
  · rw [HD.out]; exact tab_nil
  · exact HB2.out.trans ⟨rfl, rfl, rfl, by rw [World.setRow]; simp, fun k hk => setRow_other _ _ k _ (by omega)⟩

set_option maxRecDepth 100000 in
set_option maxHeartbeats 1000000 in
theorem rel26_zero (w : World) (v0 v1 v2 : Value) (P : PcD) (hP : PcAt w v0 v1 v2 P) (he : (checkD P).1 = 0) (hn : P.n = 0) :
    Calls Try.prog 26 #[.agg #[v0, v1, v2]] w (RelPost P w) := by
  have HD := Lib.hid (show relsD P = (2, 0, []) by unfold relsD; rw [if_neg (by simp [he]), if_pos hn])
  have hb : Below w.heap.size w ((w.alloc (.cells #[v0, v1, v2] 26)).alloc (.cells #[.int .i64 0, .slice none 0 0] 46)) := allocs_below [.cells #[v0, v1, v2] 26, .cells #[.int .i64 0, .slice none 0 0] 46] w _ (Nat.le_refl _)
  have hg0 := allocs_get [.cells #[v0, v1, v2] 26, .cells #[.int .i64 0, .slice none 0 0] 46] w 0 _ rfl
  have hg := allocs_get [.cells #[v0, v1, v2] 26, .cells #[.int .i64 0, .slice none 0 0] 46] w 1 _ rfl
  have HC := Lib.hid (checkRef_ok _ v0 v1 v2 (hP.below hb) he)
  have hsz : ((w.alloc (.cells #[v0, v1, v2] 26)).alloc (.cells #[.int .i64 0, .slice none 0 0] 46)).heap.size = w.heap.size + 2 := by simp
  have HB := Lib.hid hb
  have HG : Hid (((w.alloc (.cells #[v0, v1, v2] 26)).alloc (.cells #[.int .i64 0, .slice none 0 0] 46)).heap[w.heap.size + 1]? = some (.cells #[.int .i64 0, .slice none 0 0] 46 (0, 0))) := Lib.hid hg
  have HG0 : Hid (((w.alloc (.cells #[v0, v1, v2] 26)).alloc (.cells #[.int .i64 0, .slice none 0 0] 46)).heap[w.heap.size]? = some (.cells #[v0, v1, v2] 26 (0, 0))) := Lib.hid hg0
  obtain ⟨A0, c0, rfl, -⟩ := hP.1.open_
  have d1 : ((P.orders.length : Int) == 0) = true := by
    have hn' : P.orders.length = 0 := hn
    simp [hn']
  clear he hP hb hg hg0 hn
  go_enter Try.func26, Try.ntmps26
  go_wp2_with (first
    | (go_at_call 24
       (refine HC.out.mono ?_)
       rintro e w2 ⟨rfl, hb2⟩
       have hg2 : w2.heap[w.heap.size + 1]? = some (.cells #[.int .i64 0, .slice none 0 0] 46 (0, 0)) := (hb2.block _ (by rw [hsz]; omega)).trans HG.out
       have hg3 : w2.heap[w.heap.size]? = some (.cells #[.slice A0 P.orders.length c0, v1, v2] 26 (0, 0)) := (hb2.block _ (by rw [hsz]; omega)).trans HG0.out
       have hc0 : w2.cell? ⟨w.heap.size, 0, none⟩ = some (.slice A0 P.orders.length c0) := (cell_of_row _ _ 0 _ _ _ hg3).trans rfl
       have HG2 := Lib.hid hg2
       have HB2 := Lib.hid (HB.out.trans (hb2.mono (by rw [hsz]; omega)))
       clear hg2 hb2 hg3)
    | ((with_reducible refine wpList_sel 27 ?_); refine wpList_val rfl (r_build46 rfl) ?_; refine wpList_skip rfl (r_store46 (.tmp 2) (.tmp 27) rfl (w.heap.size + 1) _ #[.int .i64 0, .slice none 0 0] rfl rfl HG2.out rfl rfl one46) ?_))
  try simp only [Exit.inBlock, Exit.then]
  refine bodyPost_ret (results_46_tmp (p := 2) (q := 3) rfl _ _ (w.heap.size + 1) #[.int .i64 0, .slice none 0 0] (.int .i64 2) rfl rfl (setRow_heap _ _ _ _ _ _ HG2.out) rfl) rfl ⟨.slice none 0 0, ?_, ?_, ?_⟩
  · rw [HD.out]
  · rw [HD.out]; exact tab_nil
  · exact HB2.out.trans ⟨rfl, rfl, rfl, by rw [World.setRow]; simp, fun k hk => setRow_other _ _ k _ (by omega)⟩
end Go.Proofs
