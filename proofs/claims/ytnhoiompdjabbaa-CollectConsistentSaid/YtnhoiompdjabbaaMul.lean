/- Mul of a live group. -/
import Derived.Test.YtnhoiompdjabbaaTk
namespace Go.Proofs
open Go.RowKit Go.Proofs.Pc
attribute [local simp, local go_sem] wide_fn wide_depth

inductive SW where
  | c (v : Value)
  | vs (l : List (List Int))
  | il (l : List Int)
  | any
def SW.holds : SW → Value → World → Prop
  | SW.c u, v, _ => v = u
  | SW.vs l, v, w => VecsAt w v l
  | SW.il l, v, w => IntsAt w v l
  | SW.any, _, _ => True
theorem SW.keep {s : SW} {v : Value} {w w' : World} (h : Below w.heap.size w w') : s.holds v w → s.holds v w' := by
  cases s with
  | c _ => exact id
  | vs l => exact fun hh => VecsAt.below hh h
  | il l => exact fun hh => IntsAt.below hh h
  | any => exact id

theorem r_asg {o : Oper} {a : Act} {w : World} {v : Value} (x : Operand) (ho : o.op = .assign x) (hx : a.eval x = v) : (execOp a.eval o).run Try.prog w = .ok (.value v) w := by
  unfold execOp; simp only [ho, hx]; rfl
theorem call69 (args : Array Value) (w : World) : (callFunc 69 args).run Try.prog w = .ok (.enter 69 args) w :=
  enters_of Try.func69 (by kernel_rfl) rfl args w
theorem call70 (args : Array Value) (w : World) : (callFunc 70 args).run Try.prog w = .ok (.enter 70 args) w :=
  enters_of Try.func70 (by kernel_rfl) rfl args w
theorem fld64_0 (b : Nat) (w : World) : (Instr.fieldAt 64 (.pointer (some ⟨b, 0, none⟩)) 0).run Try.prog w = .ok (.pointer (some ⟨b, 0, none⟩)) w := by kernel_rfl

def mulErr (P : PcD) (xs ys : List Int) : Int := if takeErr P xs = 0 then takeErr P ys else takeErr P xs
theorem takeErr_NV {P : PcD} {xs : List Int} (h : takeErr P xs = 0) : NV P xs := by
  unfold takeErr at h
  by_cases hl : xs.length = P.n
  · rw [if_pos hl] at h
    by_cases hn : normalB P.orders xs 0 = true
    · refine ⟨hl, fun k hk => ?_⟩
      have := List.all_eq_true.1 hn k (by simpa using (by omega : k < xs.length))
      unfold normAt at this
      simp only [Bool.and_eq_true, decide_eq_true_eq] at this
      exact ⟨this.1, this.2.1⟩
    · rw [if_neg hn] at h; cases h
  · rw [if_neg hl] at h; cases h

def svM (bg br : Nat) (x y z : List Int) : List SW := [SW.c (.pointer (some ⟨bg, 0, none⟩)), SW.c (.pointer (some ⟨bg, 0, none⟩)), SW.c (.pointer (some ⟨bg, 0, none⟩)), SW.c (.pointer (some ⟨br, 0, none⟩)),
  SW.c (.pointer (some ⟨bg, 0, none⟩)), SW.c (.pointer (some ⟨bg, 0, none⟩)), SW.c (.pointer (some ⟨bg, 0, none⟩)), SW.c (.pointer (some ⟨br, 0, none⟩)),
  SW.c (.agg (vec x).toArray), SW.c (.agg (vec y).toArray), SW.vs [x, y], SW.c (.agg (vec z).toArray), SW.il z]

theorem take_R {P : PcD} (hv : Valid P) {w : World} {bg br : Nat} {sv : Value} {xs : List Int} (hg : Live w bg br) (hr : RulesAt w br P) (hs : IntsAt w sv xs) (hx : takeErr P xs = 0) :
    Calls Try.prog 69 #[.pointer (some ⟨bg, 0, none⟩), sv] w fun e w' => ∃ v, e = .returned v ∧ (v = .tuple #[.agg (vec xs).toArray, .int .i64 0] ∧ Below w.heap.size w w') :=
  (take_live hv w bg br hg hr sv xs hs).mono fun e w' ⟨he, hb⟩ => by
    have hvx : takeVec P xs = xs := by unfold takeVec; rw [if_pos hx]
    rw [hx, hvx] at he
    exact ⟨_, he, rfl, hb⟩
theorem list_R {P : PcD} (hv : Valid P) {w : World} {br : Nat} {x : List Int} (hr : RulesAt w br P) (hx : NV P x) :
    Calls Try.prog 70 #[.pointer (some ⟨br, 0, none⟩), .agg (vec x).toArray] w fun e w' => ∃ v, e = .returned v ∧ (IntsAt w' v x ∧ Below w.heap.size w w') :=
  (list_any hv w br hr x hx).mono fun _e _w' ⟨u, he, hu, hb⟩ => ⟨u, he, hu, hb⟩

/-- what Mul hands back -/
def MulRet (P : PcD) (xs ys : List Int) (w : World) (e : Ending) (w' : World) : Prop :=
  (∃ u, e = .returned (.tuple #[u, .int .i64 (mulErr P xs ys)]) ∧ IntsAt w' u (if mulErr P xs ys = 0 then mulP P xs ys else [])) ∧ Below w.heap.size w w'

set_option maxRecDepth 100000 in
set_option maxHeartbeats 400000 in
theorem mul_live_in {P : PcD} (hv : Valid P) (w : World) (bg br : Nat) (hg : Live w bg br) (hr : RulesAt w br P) (s1 s2 : Value) (xs ys : List Int) (h1 : IntsAt w s1 xs) (h2 : IntsAt w s2 ys) (hx : takeErr P xs = 0) (hy : takeErr P ys = 0) :
    CallsIn Fence.wide 3 Try.prog 29 #[.pointer (some ⟨bg, 0, none⟩), s1, s2] w (MulRet P xs ys w) := by
  have hnx := takeErr_NV hx
  have hny := takeErr_NV hy
  have hm : mulErr P xs ys = 0 := by unfold mulErr; rw [if_pos hx, hy]
  have hnz := mulP_NV hv (y := ys) hnx
  have HR := Lib.hid hr
  have HG := Lib.hid hg
  have HS1 := Lib.hid h1
  have HS2 := Lib.hid h2
  have hst := @store_vec_new
  have HO := Lib.hid (take_R hv hg hr h1 hx)
  have HT : ∀ w2, Below w.heap.size w w2 → _ := fun w2 hb => take_R hv ((KC.of_below hb).cell hg) ((KC.of_below hb).rules hr) (h2.below hb) hy
  have HT := Lib.hid HT
  clear hr hg h1 h2
  gi_enter Try.func29, Try.ntmps29
  gi_wp2_with (first
    | (with_reducible refine (callsIn_wide.2 HO.out).mono ?_; rintro e w1 ⟨v, rfl, rfl, hb1⟩)
    | (with_reducible refine (callsIn_wide.2 (HT.out _ (hb1.alloc hb1.size _))).mono ?_; rintro e w2 ⟨v, rfl, rfl, hb2⟩))
  have hkc : KC w (w2.alloc (.cells (vec ys).toArray 82)) := KC.of_below (((hb1.alloc hb1.size _).trans (hb2.mono (by have := hb1.size; simp; omega))).alloc (by have := hb1.size; have := hb2.size; simp at this; omega) _)
  have hbw : Below w.heap.size w (w2.alloc (.cells (vec ys).toArray 82)) := ((hb1.alloc hb1.size _).trans (hb2.mono (by have := hb1.size; simp; omega))).alloc (by have := hb1.size; have := hb2.size; simp at this; omega) _
  have hrx : (w2.alloc (.cells (vec ys).toArray 82)).rangeAt w1.heap.size 0 (vec xs) := (KC.of_below ((Below.refl _ w2).alloc (Nat.le_refl _) _)).range ((KC.of_below hb2).range (range_new w1 xs))
  have hry : (w2.alloc (.cells (vec ys).toArray 82)).rangeAt w2.heap.size 0 (vec ys) := range_new w2 ys
  generalize w2.alloc (.cells (vec ys).toArray 82) = W1 at *
  generalize w1.heap.size = bx at *
  generalize w2.heap.size = by_ at *
  have hfw : ∀ {w : World}, Below W1.heap.size W1 w → RulesAt w br P ∧ w.cell? ⟨bg, 0, none⟩ = some (.pointer (some ⟨br, 0, none⟩)) := fun h => ⟨(hkc.trans (KC.of_below h)).rules HR.out, (hkc.trans (KC.of_below h)).cell HG.out⟩
  clear hb1 hb2 hst
  refine wpIn_region_tail (by kernel_rfl) 29 13 (tailed_of (by kernel_rfl)) (fun w => Below W1.heap.size W1 w) (fun q v w => ((svM bg br xs ys (mulP P xs ys)).getD q SW.any).holds v w) (fun w w' => Below w.heap.size w w') (fun q v w w' h => SW.keep h) (Nat.le_of_ble_eq_true rfl) (Below.refl _ _).drew ?_ ?_
  · intro q o a w hq ho hS hsame hpre
    have hcases : q = 0 ∨ q = 1 ∨ q = 2 ∨ q = 3 ∨ q = 4 ∨ q = 5 ∨ q = 6 ∨ q = 7 ∨ q = 8 ∨ q = 9 ∨ q = 10 ∨ q = 11 ∨ q = 12 := by omega
    rcases hcases with rfl | rfl | rfl | rfl | rfl | rfl | rfl | rfl | rfl | rfl | rfl | rfl | rfl
    · obtain rfl := Option.some.inj ho; exact ⟨rfl, rfl, (by exact wpW_val (r_move (.tmp 0) rfl (hsame.out 0 (.inl (by decide)))) ⟨_, rfl, hS, Below.refl _ _, rfl⟩)⟩
    · obtain rfl := Option.some.inj ho; exact ⟨rfl, rfl, (by exact wpW_val (r_nil (.tmp 29) _ rfl (hpre ⟨0, .data⟩ (by simp) rfl)) ⟨_, rfl, hS, Below.refl _ _, rfl⟩)⟩
    · obtain rfl := Option.some.inj ho; exact ⟨rfl, rfl, (by exact wpW_val (r_fld (.tmp 30) _ rfl (hpre ⟨1, .data⟩ (by simp) rfl) (fld64_0 _ _)) ⟨_, rfl, hS, Below.refl _ _, rfl⟩)⟩
    · obtain rfl := Option.some.inj ho; exact ⟨rfl, rfl, (by exact wpW_val (r_load62 (.tmp 31) ⟨bg, 0, none⟩ rfl (hpre ⟨2, .data⟩ (by simp) rfl) (hfw hS).2) ⟨_, rfl, hS, Below.refl _ _, rfl⟩)⟩
    · obtain rfl := Option.some.inj ho; exact ⟨rfl, rfl, (by exact wpW_val (r_move (.tmp 0) rfl (hsame.out 0 (.inl (by decide)))) ⟨_, rfl, hS, Below.refl _ _, rfl⟩)⟩
    · obtain rfl := Option.some.inj ho; exact ⟨rfl, rfl, (by exact wpW_val (r_nil (.tmp 33) _ rfl (hpre ⟨4, .data⟩ (by simp) rfl)) ⟨_, rfl, hS, Below.refl _ _, rfl⟩)⟩
    · obtain rfl := Option.some.inj ho; exact ⟨rfl, rfl, (by exact wpW_val (r_fld (.tmp 34) _ rfl (hpre ⟨5, .data⟩ (by simp) rfl) (fld64_0 _ _)) ⟨_, rfl, hS, Below.refl _ _, rfl⟩)⟩
    · obtain rfl := Option.some.inj ho; exact ⟨rfl, rfl, (by exact wpW_val (r_load62 (.tmp 35) ⟨bg, 0, none⟩ rfl (hpre ⟨6, .data⟩ (by simp) rfl) (hfw hS).2) ⟨_, rfl, hS, Below.refl _ _, rfl⟩)⟩
    · obtain rfl := Option.some.inj ho; exact ⟨rfl, rfl, (by exact wpW_val (r_load82 (.tmp 8) _ _ xs rfl (hsame.out 8 (.inl (by decide))) ((KC.of_below hS).range hrx)) ⟨_, rfl, hS, Below.refl _ _, rfl⟩)⟩
    · obtain rfl := Option.some.inj ho; exact ⟨rfl, rfl, (by exact wpW_val (r_load82 (.tmp 10) _ _ ys rfl (hsame.out 10 (.inl (by decide))) ((KC.of_below hS).range hry)) ⟨_, rfl, hS, Below.refl _ _, rfl⟩)⟩
    · obtain rfl := Option.some.inj ho; exact ⟨rfl, rfl, (by exact wpW_val (r_bs2 (.tmp 37) (.tmp 38) xs ys rfl (hpre ⟨8, .data⟩ (by simp) rfl) (hpre ⟨9, .data⟩ (by simp) rfl)) ⟨_, rfl, hS.trans (((Below.refl _ _).alloc (Nat.le_refl _) _).mono hS.size), (Below.refl _ _).alloc (Nat.le_refl _) _, vecs2 _ xs ys⟩)⟩
    · obtain rfl := Option.some.inj ho; exact ⟨rfl, rfl, (by exact wpW_call (r_call2 (.tmp 36) (.tmp 39) _ _ _ rfl (hpre ⟨7, .data⟩ (by simp) rfl) rfl call71) (mul_R hv (hfw hS).1 (hpre ⟨10, .data⟩ (by simp) rfl) hnx (nvs1 hny) (by simp)) (fun v w'' h => ⟨v, rfl, hS.trans (h.2.mono hS.size), h.2, h.1⟩))⟩
    · obtain rfl := Option.some.inj ho; exact ⟨rfl, rfl, (by exact wpW_call (r_call2 (.tmp 32) (.tmp 40) _ _ _ rfl (hpre ⟨3, .data⟩ (by simp) rfl) (hpre ⟨11, .data⟩ (by simp) rfl) call70) (list_R hv (hfw hS).1 hnz) (fun v w'' h => ⟨v, rfl, hS.trans (h.2.mono hS.size), h.2, h.1⟩))⟩
  · intro a w' hS hsame hsl
    have hu := hsl 12 (by omega)
    have hfr := hsame.frame (Nat.le_of_ble_eq_true rfl)
    refine wpOpIn_of (o := ⟨some 6, .assign (.tmp 41), 22, "collect.go:331", _, none⟩) rfl rfl (wpW_val (r_asg (.tmp 41) rfl rfl) (wpOpIn_of (o := ⟨some 7, .assign (.const (.int .i64 0)), 29, "collect.go:331", _, none⟩) rfl rfl (wpW_val (r_asg (.const (.int .i64 0)) rfl rfl) ?_)))
    have e41 : a.eval (.tmp 41) = a.tmps.getD (29 + 12) undef := rfl
    have ec : ∀ a : Act, a.eval (.const (.int .i64 0)) = .int .i64 0 := fun _ => rfl
    rw [e41, ec]
    generalize a.tmps.getD (29 + 12) undef = u at *
    have HU : IntsAt w' u (mulP P xs ys) := hu
    clear hu hsl hsame e41 ec
    generalize (fun i => a.tmps.getD (29 + i) undef) = vs at hfr
    subst hfr
    dsimp only
    simp only [Act.put, List.take_succ_cons, List.take_zero, List.drop_succ_cons, List.drop_zero, List.map_cons, List.map_nil, List.range, List.range.loop, List.cons_append, List.nil_append, List.append_nil, List.setIfInBounds_toArray, List.set_cons_succ, List.set_cons_zero, Nat.reduceAdd]
    have hfin : MulRet P xs ys w (.returned (.tuple #[u, .int .i64 0])) w' := ⟨⟨u, by rw [hm], by rw [if_pos hm]; exact HU⟩, hbw.trans (hS.mono hbw.size)⟩
    clear hfw hnx hny hnz hrx hry hkc hbw HO HT HR HG HS1 HS2 HU hS
    gi_wp2_with fail
    exact bodyPost_ret (results_tmp2 (t := 6) (u := 7) rfl _ _ _) rfl hfin

theorem mul_live {P : PcD} (hv : Valid P) (w : World) (bg br : Nat) (hg : Live w bg br) (hr : RulesAt w br P) (s1 s2 : Value) (xs ys : List Int) (h1 : IntsAt w s1 xs) (h2 : IntsAt w s2 ys) (hx : takeErr P xs = 0) (hy : takeErr P ys = 0) :
    Calls Try.prog 29 #[.pointer (some ⟨bg, 0, none⟩), s1, s2] w (MulRet P xs ys w) := callsIn_wide.1 (mul_live_in hv w bg br hg hr s1 s2 xs ys h1 h2 hx hy)
end Go.Proofs
