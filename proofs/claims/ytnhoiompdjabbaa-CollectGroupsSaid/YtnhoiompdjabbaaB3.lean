/- Inv and Period of a live group; Operations on numbers, as run equations; Pow of a live group; Plain: the list with a rank; Rank and Element of a live group; Plain: the list of a word. -/
import Derived.Test.YtnhoiompdjabbaaB2
import Derived.Test.YtnhoiompdjabbaaA1
import Derived.Deep.RegionHeld3
namespace Go.Proofs
open Go.RowKit Go.Proofs.Pc
attribute [local simp, local go_sem] wide_fn wide_depth

inductive SW2 where
  | s (x : SW)
  | per (x : List Int)
  | any
def SW2.holds (P : PcD) : SW2 → Value → World → Prop
  | SW2.s x, v, w => x.holds v w
  | SW2.per x, v, _ => ∃ n : Nat, IsPer P x n ∧ (n : Int) ≤ 50000 ∧ v = .int .i64 n
  | SW2.any, _, _ => True
theorem SW2.keep {P : PcD} {s : SW2} {v : Value} {w w' : World} (h : Below w.heap.size w w') : s.holds P v w → s.holds P v w' := by
  cases s with
  | s x => exact SW.keep h
  | per x => exact id
  | any => exact id
theorem call73 (args : Array Value) (w : World) : (callFunc 73 args).run Try.prog w = .ok (.enter 73 args) w := enters_of Try.func73 (by kernel_rfl) rfl args w
theorem call75 (args : Array Value) (w : World) : (callFunc 75 args).run Try.prog w = .ok (.enter 75 args) w := enters_of Try.func75 (by kernel_rfl) rfl args w
theorem call76 (args : Array Value) (w : World) : (callFunc 76 args).run Try.prog w = .ok (.enter 76 args) w := enters_of Try.func76 (by kernel_rfl) rfl args w
theorem inverse_R {P : PcD} (hv : Valid P) {w : World} {br : Nat} {x : List Int} (hr : RulesAt w br P) (hx : NV P x) :
    Calls Try.prog 73 #[.pointer (some ⟨br, 0, none⟩), .agg (vec x).toArray] w fun e w' => ∃ v, e = .returned v ∧ (v = .agg (vec (invP P x)).toArray ∧ Below w.heap.size w w') :=
  (inverse_any hv w br x hr hx).mono fun _e _w' ⟨he, hb⟩ => ⟨_, he, rfl, hb⟩
theorem period_R {P : PcD} (hv : Valid P) (hc : consB P = true) (hp : prod P P.n ≤ 50000) {w : World} {br : Nat} {x : List Int} (hr : RulesAt w br P) (hx : NV P x) :
    Calls Try.prog 75 #[.pointer (some ⟨br, 0, none⟩), .agg (vec x).toArray] w fun e w' => ∃ v, e = .returned v ∧ ((∃ n : Nat, IsPer P x n ∧ (n : Int) ≤ 50000 ∧ v = .int .i64 n) ∧ Below w.heap.size w w') :=
  (period_any hv hc hp w br x hr hx).mono fun _e _w' ⟨⟨n, h1, h2, he⟩, hb⟩ => ⟨_, he, ⟨n, h1, h2, rfl⟩, hb⟩

/-- a list and no error -/
def ListRet (z : List Int) (w : World) (e : Ending) (w' : World) : Prop := (∃ u, e = .returned (.tuple #[u, .int .i64 0]) ∧ IntsAt w' u z) ∧ Below w.heap.size w w'
def NumRet (P : PcD) (x : List Int) (w : World) (e : Ending) (w' : World) : Prop := (∃ n : Nat, IsPer P x n ∧ (n : Int) ≤ 50000 ∧ e = .returned (.tuple #[.int .i64 n, .int .i64 0])) ∧ Below w.heap.size w w'

set_option maxRecDepth 100000 in
set_option maxHeartbeats 400000 in
theorem inv_live_in {P : PcD} (hv : Valid P) (w : World) (bg br : Nat) (hg : Live w bg br) (hr : RulesAt w br P) (s1 : Value) (xs : List Int) (h1 : IntsAt w s1 xs) (hx : takeErr P xs = 0) :
    CallsIn Fence.wide 3 Try.prog 32 #[.pointer (some ⟨bg, 0, none⟩), s1] w (ListRet (invP P xs) w) := by
  have hnx := takeErr_NV hx
  have hnz := invP_NV hv hnx
  have HR := Lib.hid hr
  have HG := Lib.hid hg
  have HS1 := Lib.hid h1
  have hst := @store_vec_new
  have HO := Lib.hid (take_R hv hg hr h1 hx)
  clear hr hg h1
  gi_enter Try.func32, Try.ntmps32
  gi_wp2_with (with_reducible refine (callsIn_wide.2 HO.out).mono ?_; rintro e w1 ⟨v, rfl, rfl, hb1⟩)
  have hbw : Below w.heap.size w (w1.alloc (.cells (vec xs).toArray 82)) := hb1.alloc hb1.size _
  have hkc : KC w (w1.alloc (.cells (vec xs).toArray 82)) := KC.of_below hbw
  have hrx : (w1.alloc (.cells (vec xs).toArray 82)).rangeAt w1.heap.size 0 (vec xs) := range_new w1 xs
  generalize w1.alloc (.cells (vec xs).toArray 82) = W1 at *
  generalize w1.heap.size = bx at *
  have hfw : ∀ {w : World}, Below W1.heap.size W1 w → RulesAt w br P ∧ w.cell? ⟨bg, 0, none⟩ = some (.pointer (some ⟨br, 0, none⟩)) := fun h => ⟨(hkc.trans (KC.of_below h)).rules HR.out, (hkc.trans (KC.of_below h)).cell HG.out⟩
  clear hb1 hst
  refine wpIn_region_tail (by kernel_rfl) 17 11 (tailed_of (by kernel_rfl)) (fun w => Below W1.heap.size W1 w) (fun q v w => ((([SW2.s (SW.c (.pointer (some ⟨bg, 0, none⟩))), SW2.s (SW.c (.pointer (some ⟨bg, 0, none⟩))), SW2.s (SW.c (.pointer (some ⟨bg, 0, none⟩))), SW2.s (SW.c (.pointer (some ⟨br, 0, none⟩))), SW2.s (SW.c (.pointer (some ⟨bg, 0, none⟩))), SW2.s (SW.c (.pointer (some ⟨bg, 0, none⟩))), SW2.s (SW.c (.pointer (some ⟨bg, 0, none⟩))), SW2.s (SW.c (.pointer (some ⟨br, 0, none⟩))), SW2.s (SW.c (.agg (vec xs).toArray)), SW2.s (SW.c (.agg (vec (invP P xs)).toArray)), SW2.s (SW.il (invP P xs))]) : List SW2).getD q SW2.any).holds P v w) (fun w w' => Below w.heap.size w w') (fun q v w w' h => SW2.keep h) (Nat.le_of_ble_eq_true rfl) (Below.refl _ _).drew ?_ ?_
  · intro q o a w hq ho hS hsame hpre
    have hcases : q = 0 ∨ q = 1 ∨ q = 2 ∨ q = 3 ∨ q = 4 ∨ q = 5 ∨ q = 6 ∨ q = 7 ∨ q = 8 ∨ q = 9 ∨ q = 10 := by omega
    rcases hcases with rfl | rfl | rfl | rfl | rfl | rfl | rfl | rfl | rfl | rfl | rfl
    · obtain rfl := Option.some.inj ho; exact ⟨rfl, rfl, (by exact wpW_val (r_move (.tmp 0) rfl (hsame.out 0 (.inl (by decide)))) ⟨_, rfl, hS, Below.refl _ _, rfl⟩)⟩
    · obtain rfl := Option.some.inj ho; exact ⟨rfl, rfl, (by exact wpW_val (r_nil (.tmp 17) _ rfl (hpre ⟨0, .data⟩ (by simp) rfl)) ⟨_, rfl, hS, Below.refl _ _, rfl⟩)⟩
    · obtain rfl := Option.some.inj ho; exact ⟨rfl, rfl, (by exact wpW_val (r_fld (.tmp 18) _ rfl (hpre ⟨1, .data⟩ (by simp) rfl) (fld64_0 _ _)) ⟨_, rfl, hS, Below.refl _ _, rfl⟩)⟩
    · obtain rfl := Option.some.inj ho; exact ⟨rfl, rfl, (by exact wpW_val (r_load62 (.tmp 19) ⟨bg, 0, none⟩ rfl (hpre ⟨2, .data⟩ (by simp) rfl) (hfw hS).2) ⟨_, rfl, hS, Below.refl _ _, rfl⟩)⟩
    · obtain rfl := Option.some.inj ho; exact ⟨rfl, rfl, (by exact wpW_val (r_move (.tmp 0) rfl (hsame.out 0 (.inl (by decide)))) ⟨_, rfl, hS, Below.refl _ _, rfl⟩)⟩
    · obtain rfl := Option.some.inj ho; exact ⟨rfl, rfl, (by exact wpW_val (r_nil (.tmp 21) _ rfl (hpre ⟨4, .data⟩ (by simp) rfl)) ⟨_, rfl, hS, Below.refl _ _, rfl⟩)⟩
    · obtain rfl := Option.some.inj ho; exact ⟨rfl, rfl, (by exact wpW_val (r_fld (.tmp 22) _ rfl (hpre ⟨5, .data⟩ (by simp) rfl) (fld64_0 _ _)) ⟨_, rfl, hS, Below.refl _ _, rfl⟩)⟩
    · obtain rfl := Option.some.inj ho; exact ⟨rfl, rfl, (by exact wpW_val (r_load62 (.tmp 23) ⟨bg, 0, none⟩ rfl (hpre ⟨6, .data⟩ (by simp) rfl) (hfw hS).2) ⟨_, rfl, hS, Below.refl _ _, rfl⟩)⟩
    · obtain rfl := Option.some.inj ho; exact ⟨rfl, rfl, (by exact wpW_val (r_load82 (.tmp 6) _ _ xs rfl (hsame.out 6 (.inl (by decide))) ((KC.of_below hS).range hrx)) ⟨_, rfl, hS, Below.refl _ _, rfl⟩)⟩
    · obtain rfl := Option.some.inj ho; exact ⟨rfl, rfl, (by exact wpW_call (r_call2 (.tmp 24) (.tmp 25) _ _ _ rfl (hpre ⟨7, .data⟩ (by simp) rfl) (hpre ⟨8, .data⟩ (by simp) rfl) call73) (inverse_R hv (hfw hS).1 hnx) (fun v w'' h => ⟨v, rfl, hS.trans (h.2.mono hS.size), h.2, h.1⟩))⟩
    · obtain rfl := Option.some.inj ho; exact ⟨rfl, rfl, (by exact wpW_call (r_call2 (.tmp 20) (.tmp 26) _ _ _ rfl (hpre ⟨3, .data⟩ (by simp) rfl) (hpre ⟨9, .data⟩ (by simp) rfl) call70) (list_R hv (hfw hS).1 hnz) (fun v w'' h => ⟨v, rfl, hS.trans (h.2.mono hS.size), h.2, h.1⟩))⟩
  · intro a w' hS hsame hsl
    have hu := hsl 10 (by omega)
    have hfr := hsame.frame (Nat.le_of_ble_eq_true rfl)
    refine wpOpIn_of (o := ⟨some 4, .assign (.tmp 27), 22, _, _, none⟩) rfl rfl (wpW_val (r_asg (.tmp 27) rfl rfl) (wpOpIn_of (o := ⟨some 5, .assign (.const (.int .i64 0)), 29, _, _, none⟩) rfl rfl (wpW_val (r_asg (.const (.int .i64 0)) rfl rfl) ?_)))
    have e41 : a.eval (.tmp 27) = a.tmps.getD (17 + 10) undef := rfl
    have ec : ∀ a : Act, a.eval (.const (.int .i64 0)) = .int .i64 0 := fun _ => rfl
    rw [e41, ec]
    generalize a.tmps.getD (17 + 10) undef = u at *
    have HU : IntsAt w' u (invP P xs) := hu
    clear hu hsl hsame e41 ec
    generalize (fun i => a.tmps.getD (17 + i) undef) = vs at hfr
    subst hfr
    dsimp only
    simp only [Act.put, List.take_succ_cons, List.take_zero, List.drop_succ_cons, List.drop_zero, List.map_cons, List.map_nil, List.range, List.range.loop, List.cons_append, List.nil_append, List.append_nil, List.setIfInBounds_toArray, List.set_cons_succ, List.set_cons_zero, Nat.reduceAdd]
    have hfin : ListRet (invP P xs) w (.returned (.tuple #[u, .int .i64 0])) w' := ⟨⟨u, rfl, HU⟩, hbw.trans (hS.mono hbw.size)⟩
    clear hfw hnx hnz hrx hkc hbw HO HR HG HS1 HU hS
    gi_wp2_with fail
    exact bodyPost_ret (results_tmp2 (t := 4) (u := 5) rfl _ _ _) rfl hfin

theorem inv_live {P : PcD} (hv : Valid P) (w : World) (bg br : Nat) (hg : Live w bg br) (hr : RulesAt w br P) (s1 : Value) (xs : List Int) (h1 : IntsAt w s1 xs) (hx : takeErr P xs = 0) :
    Calls Try.prog 32 #[.pointer (some ⟨bg, 0, none⟩), s1] w (ListRet (invP P xs) w) := callsIn_wide.1 (inv_live_in hv w bg br hg hr s1 xs h1 hx)

set_option maxRecDepth 100000 in
set_option maxHeartbeats 400000 in
theorem per_live_in {P : PcD} (hv : Valid P) (hc : consB P = true) (hp : prod P P.n ≤ 50000) (w : World) (bg br : Nat) (hg : Live w bg br) (hr : RulesAt w br P) (s1 : Value) (xs : List Int) (h1 : IntsAt w s1 xs) (hx : takeErr P xs = 0) :
    CallsIn Fence.wide 3 Try.prog 40 #[.pointer (some ⟨bg, 0, none⟩), s1] w (NumRet P xs w) := by
  have hnx := takeErr_NV hx
  have HR := Lib.hid hr
  have HG := Lib.hid hg
  have HS1 := Lib.hid h1
  have hst := @store_vec_new
  have HO := Lib.hid (take_R hv hg hr h1 hx)
  clear hr hg h1
  gi_enter Try.func40, Try.ntmps40
  gi_wp2_with (with_reducible refine (callsIn_wide.2 HO.out).mono ?_; rintro e w1 ⟨v, rfl, rfl, hb1⟩)
  have hbw : Below w.heap.size w (w1.alloc (.cells (vec xs).toArray 82)) := hb1.alloc hb1.size _
  have hkc : KC w (w1.alloc (.cells (vec xs).toArray 82)) := KC.of_below hbw
  have hrx : (w1.alloc (.cells (vec xs).toArray 82)).rangeAt w1.heap.size 0 (vec xs) := range_new w1 xs
  generalize w1.alloc (.cells (vec xs).toArray 82) = W1 at *
  generalize w1.heap.size = bx at *
  have hfw : ∀ {w : World}, Below W1.heap.size W1 w → RulesAt w br P ∧ w.cell? ⟨bg, 0, none⟩ = some (.pointer (some ⟨br, 0, none⟩)) := fun h => ⟨(hkc.trans (KC.of_below h)).rules HR.out, (hkc.trans (KC.of_below h)).cell HG.out⟩
  clear hb1 hst
  refine wpIn_region_tail (by kernel_rfl) 17 6 (tailed_of (by kernel_rfl)) (fun w => Below W1.heap.size W1 w) (fun q v w => ((([SW2.s (SW.c (.pointer (some ⟨bg, 0, none⟩))), SW2.s (SW.c (.pointer (some ⟨bg, 0, none⟩))), SW2.s (SW.c (.pointer (some ⟨bg, 0, none⟩))), SW2.s (SW.c (.pointer (some ⟨br, 0, none⟩))), SW2.s (SW.c (.agg (vec xs).toArray)), SW2.per xs]) : List SW2).getD q SW2.any).holds P v w) (fun w w' => Below w.heap.size w w') (fun q v w w' h => SW2.keep h) (Nat.le_of_ble_eq_true rfl) (Below.refl _ _).drew ?_ ?_
  · intro q o a w hq ho hS hsame hpre
    have hcases : q = 0 ∨ q = 1 ∨ q = 2 ∨ q = 3 ∨ q = 4 ∨ q = 5 := by omega
    rcases hcases with rfl | rfl | rfl | rfl | rfl | rfl
    · obtain rfl := Option.some.inj ho; exact ⟨rfl, rfl, (by exact wpW_val (r_move (.tmp 0) rfl (hsame.out 0 (.inl (by decide)))) ⟨_, rfl, hS, Below.refl _ _, rfl⟩)⟩
    · obtain rfl := Option.some.inj ho; exact ⟨rfl, rfl, (by exact wpW_val (r_nil (.tmp 17) _ rfl (hpre ⟨0, .data⟩ (by simp) rfl)) ⟨_, rfl, hS, Below.refl _ _, rfl⟩)⟩
    · obtain rfl := Option.some.inj ho; exact ⟨rfl, rfl, (by exact wpW_val (r_fld (.tmp 18) _ rfl (hpre ⟨1, .data⟩ (by simp) rfl) (fld64_0 _ _)) ⟨_, rfl, hS, Below.refl _ _, rfl⟩)⟩
    · obtain rfl := Option.some.inj ho; exact ⟨rfl, rfl, (by exact wpW_val (r_load62 (.tmp 19) ⟨bg, 0, none⟩ rfl (hpre ⟨2, .data⟩ (by simp) rfl) (hfw hS).2) ⟨_, rfl, hS, Below.refl _ _, rfl⟩)⟩
    · obtain rfl := Option.some.inj ho; exact ⟨rfl, rfl, (by exact wpW_val (r_load82 (.tmp 6) _ _ xs rfl (hsame.out 6 (.inl (by decide))) ((KC.of_below hS).range hrx)) ⟨_, rfl, hS, Below.refl _ _, rfl⟩)⟩
    · obtain rfl := Option.some.inj ho; exact ⟨rfl, rfl, (by exact wpW_call (r_call2 (.tmp 20) (.tmp 21) _ _ _ rfl (hpre ⟨3, .data⟩ (by simp) rfl) (hpre ⟨4, .data⟩ (by simp) rfl) call75) (period_R hv hc hp (hfw hS).1 hnx) (fun v w'' h => ⟨v, rfl, hS.trans (h.2.mono hS.size), h.2, h.1⟩))⟩
  · intro a w' hS hsame hsl
    have hu := hsl 5 (by omega)
    have hfr := hsame.frame (Nat.le_of_ble_eq_true rfl)
    refine wpOpIn_of (o := ⟨some 4, .assign (.tmp 22), 3, _, _, none⟩) rfl rfl (wpW_val (r_asg (.tmp 22) rfl rfl) (wpOpIn_of (o := ⟨some 5, .assign (.const (.int .i64 0)), 29, _, _, none⟩) rfl rfl (wpW_val (r_asg (.const (.int .i64 0)) rfl rfl) ?_)))
    have e41 : a.eval (.tmp 22) = a.tmps.getD (17 + 5) undef := rfl
    have ec : ∀ a : Act, a.eval (.const (.int .i64 0)) = .int .i64 0 := fun _ => rfl
    rw [e41, ec]
    generalize a.tmps.getD (17 + 5) undef = u at *
    have HU : ∃ n : Nat, IsPer P xs n ∧ (n : Int) ≤ 50000 ∧ u = .int .i64 n := hu
    clear hu hsl hsame e41 ec
    generalize (fun i => a.tmps.getD (17 + i) undef) = vs at hfr
    subst hfr
    dsimp only
    simp only [Act.put, List.take_succ_cons, List.take_zero, List.drop_succ_cons, List.drop_zero, List.map_cons, List.map_nil, List.range, List.range.loop, List.cons_append, List.nil_append, List.append_nil, List.setIfInBounds_toArray, List.set_cons_succ, List.set_cons_zero, Nat.reduceAdd]
    have hfin : NumRet P xs w (.returned (.tuple #[u, .int .i64 0])) w' := by obtain ⟨n, g1, g2, rfl⟩ := HU; exact ⟨⟨n, g1, g2, rfl⟩, hbw.trans (hS.mono hbw.size)⟩
    clear hfw hnx hrx hkc hbw HO HR HG HS1 HU hS
    gi_wp2_with fail
    exact bodyPost_ret (results_tmp2 (t := 4) (u := 5) rfl _ _ _) rfl hfin

theorem per_live {P : PcD} (hv : Valid P) (hc : consB P = true) (hp : prod P P.n ≤ 50000) (w : World) (bg br : Nat) (hg : Live w bg br) (hr : RulesAt w br P) (s1 : Value) (xs : List Int) (h1 : IntsAt w s1 xs) (hx : takeErr P xs = 0) :
    Calls Try.prog 40 #[.pointer (some ⟨bg, 0, none⟩), s1] w (NumRet P xs w) := callsIn_wide.1 (per_live_in hv hc hp w bg br hg hr s1 xs h1 hx)
end Go.Proofs
namespace Go.Proofs
open Go.RowKit Go.Proofs.Pc
section
variable {o : Oper} {a : Act} {w : World}
theorem r_rem (x y : Operand) (n k : Int) (ho : o.op = .binOp .rem 3 x y 3) (hx : a.eval x = .int .i64 n) (hy : a.eval y = .int .i64 k) (hk : 0 < k) (hk2 : k ≤ 1000000) :
    (execOp a.eval o).run Try.prog w = .ok (.value (.int .i64 (n.tmod k))) w := by
  have h0 : ¬ k = 0 := by omega
  have h3 : n.tmod k < k := Int.tmod_lt_of_pos _ hk
  have h4 : -k < n.tmod k := by
    have := Int.lt_tmod_of_pos n hk
    omega
  have hw1 : IntKind.i64.wrap (n.tmod k) = n.tmod k := IntWalk.i64_in _ (by omega)
  unfold execOp
  simp only [ho, hx, hy]
  simp [go_sem, h0]
theorem r_add (x y : Operand) (n k : Int) (ho : o.op = .binOp .add 3 x y 3) (hx : a.eval x = .int .i64 n) (hy : a.eval y = .int .i64 k) (h1 : -9223372036854775808 ≤ n + k) (h2 : n + k ≤ 9223372036854775807) :
    (execOp a.eval o).run Try.prog w = .ok (.value (.int .i64 (n + k))) w := by
  have hw1 : IntKind.i64.wrap (n + k) = n + k := IntWalk.i64_in _ (by omega)
  unfold execOp
  simp only [ho, hx, hy]
  simp [go_sem, hw1]
theorem r_subc (x : Operand) (n k : Int) (ho : o.op = .binOp .sub 3 x (.const (.int .i64 k)) 3) (hx : a.eval x = .int .i64 n) (h1 : -9223372036854775808 ≤ n - k) (h2 : n - k ≤ 9223372036854775807) :
    (execOp a.eval o).run Try.prog w = .ok (.value (.int .i64 (n - k))) w := by
  have hw1 : IntKind.i64.wrap (n - k) = n - k := IntWalk.i64_in _ (by omega)
  have e : a.eval (.const (.int .i64 k)) = .int .i64 k := rfl
  unfold execOp
  simp only [ho, hx, e]
  simp [go_sem, hw1]
theorem r_neg (x : Operand) (n : Int) (ho : o.op = .unOp .neg 3 x) (hx : a.eval x = .int .i64 n) (h1 : -9223372036854775808 ≤ -n) (h2 : -n ≤ 9223372036854775807) :
    (execOp a.eval o).run Try.prog w = .ok (.value (.int .i64 (-n))) w := by
  have hw1 : IntKind.i64.wrap (-n) = -n := IntWalk.i64_in _ (by omega)
  unfold execOp
  simp only [ho, hx]
  simp [go_sem, hw1]
end
end Go.Proofs
namespace Go.Proofs
open Go.RowKit Go.Proofs.Pc
attribute [local simp, local go_sem] wide_fn wide_depth

def dmPow : Nat → Nat := fun i => [20, 21, 22, 23, 24, 25].getD i 0
theorem power_R {P : PcD} (hv : Valid P) (hc : consB P = true) {w : World} {br : Nat} {x : List Int} {n : Nat} (hn : n ≤ 1000000) (hr : RulesAt w br P) (hx : NV P x) :
    Calls Try.prog 76 #[.pointer (some ⟨br, 0, none⟩), .agg (vec x).toArray, .int .i64 n] w fun e w' => ∃ v, e = .returned v ∧ (v = .agg (vec (npow P x n)).toArray ∧ Below w.heap.size w w') :=
  (power_any hv hc w br x n hn hr hx).mono fun _e _w' ⟨he, hb⟩ => ⟨_, he, rfl, hb⟩
theorem r_call3 {o : Oper} {a : Act} {w : World} {f : FuncId} (x y z : Operand) (u v t : Value) (T : Array TypeId) (ho : o.op = .call { callee := .value (.func f), args := #[x, y, z], argTypes := T }) (hx : a.eval x = u) (hy : a.eval y = v) (hz : a.eval z = t)
    (he : ∀ args w, (callFunc f args).run Try.prog w = .ok (.enter f args) w) : (execOp a.eval o).run Try.prog w = .ok (.enter f #[u, v, t]) w := by
  have hf : a.eval (.func f) = .func (.func f) #[] #[] := rfl
  unfold execOp
  simp only [ho, resolve, List.map_toArray, List.map_cons, List.map_nil, hx, hy, hz, hf]
  simp [go_sem, he]

set_option maxRecDepth 100000 in
set_option maxHeartbeats 1000000 in
theorem pow_live_in {P : PcD} (hv : Valid P) (hc : consB P = true) (hp : prod P P.n ≤ 50000) (w : World) (bg br : Nat) (hg : Live w bg br) (hr : RulesAt w br P) (s1 : Value) (xs : List Int) (n : Int) (h1 : IntsAt w s1 xs) (hx : takeErr P xs = 0) (k : Nat) (hk : IsPer P xs k) (hk5 : (k : Int) ≤ 50000) :
    CallsIn Fence.wide 3 Try.prog 34 #[.pointer (some ⟨bg, 0, none⟩), s1, .int .i64 n] w (ListRet (npow P xs (n % (k : Int)).toNat) w) := by
  have hnx := takeErr_NV hx
  have hkp := hk.pos
  have hk0 : (0 : Int) < (k : Int) := by omega
  have hk1 : (k : Int) ≤ 1000000 := by omega
  have h3 : n.tmod k < k := Int.tmod_lt_of_pos _ hk0
  have h4 : -(k : Int) < n.tmod k := by
    have := Int.lt_tmod_of_pos n hk0
    omega
  have h5 : (n.tmod k + k).tmod k = n % k := by
    rw [Int.tmod_eq_emod_of_nonneg (by omega), Int.add_emod_right, Int.tmod_eq_emod]
    split
    · simp
    · rw [Int.sub_emod]; simp
  have h6 := Int.emod_nonneg n (show (k : Int) ≠ 0 by omega)
  have h7 := Int.emod_lt_of_pos n hk0
  obtain ⟨r, hr0⟩ := Int.eq_ofNat_of_zero_le h6
  have hrk : r ≤ 1000000 := by omega
  rw [hr0, Int.toNat_natCast]
  have hr0 : (n.tmod k + k).tmod k = (r : Int) := h5.trans hr0
  have HR0 := Lib.hid hr0
  have hnz := npow_NV hv (x := xs) r
  have HR := Lib.hid hr
  have HG := Lib.hid hg
  have HS1 := Lib.hid h1
  have hst := @store_vec_new
  have HO := Lib.hid (take_R hv hg hr h1 hx)
  clear hr hg h1 h5 h6 h7 hr0
  gi_enter Try.func34, Try.ntmps34
  gi_wp2_with (with_reducible refine (callsIn_wide.2 HO.out).mono ?_; rintro e w1 ⟨v, rfl, rfl, hb1⟩)
  have hbw : Below w.heap.size w (w1.alloc (.cells (vec xs).toArray 82)) := hb1.alloc hb1.size _
  have hkc : KC w (w1.alloc (.cells (vec xs).toArray 82)) := KC.of_below hbw
  have hrx : (w1.alloc (.cells (vec xs).toArray 82)).rangeAt w1.heap.size 0 (vec xs) := range_new w1 xs
  generalize w1.alloc (.cells (vec xs).toArray 82) = W1 at *
  generalize w1.heap.size = bx at *
  have hfw : ∀ {w : World}, Below W1.heap.size W1 w → RulesAt w br P ∧ w.cell? ⟨bg, 0, none⟩ = some (.pointer (some ⟨br, 0, none⟩)) := fun h => ⟨(hkc.trans (KC.of_below h)).rules HR.out, (hkc.trans (KC.of_below h)).cell HG.out⟩
  clear hb1 hst
  refine wpIn_region_one (by kernel_rfl) dmPow 6 (tailed1_of (by kernel_rfl)) (fun w => Below W1.heap.size W1 w) (fun q v w => ((([SW2.s (SW.c (.pointer (some ⟨bg, 0, none⟩))), SW2.s (SW.c (.pointer (some ⟨bg, 0, none⟩))), SW2.s (SW.c (.pointer (some ⟨bg, 0, none⟩))), SW2.s (SW.c (.pointer (some ⟨br, 0, none⟩))), SW2.s (SW.c (.agg (vec xs).toArray)), SW2.per xs]) : List SW2).getD q SW2.any).holds P v w) (fun w w' => Below w.heap.size w w') (inj_of (by decide)) (fun q v w w' h => SW2.keep h) (lt_of (n := 44) (by decide)) (Below.refl _ _).drew ?_ ?_
  · intro q o a w hq ho hS hsame hpre
    have hcases : q = 0 ∨ q = 1 ∨ q = 2 ∨ q = 3 ∨ q = 4 ∨ q = 5 := by omega
    rcases hcases with rfl | rfl | rfl | rfl | rfl | rfl
    · obtain rfl := Option.some.inj ho; exact ⟨rfl, rfl, (by exact wpW_val (r_move (.tmp 0) rfl (hsame.out 0 (by decide))) ⟨_, rfl, hS, Below.refl _ _, rfl⟩)⟩
    · obtain rfl := Option.some.inj ho; exact ⟨rfl, rfl, (by exact wpW_val (r_nil (.tmp 20) _ rfl (hpre ⟨0, .data⟩ (by simp) rfl)) ⟨_, rfl, hS, Below.refl _ _, rfl⟩)⟩
    · obtain rfl := Option.some.inj ho; exact ⟨rfl, rfl, (by exact wpW_val (r_fld (.tmp 21) _ rfl (hpre ⟨1, .data⟩ (by simp) rfl) (fld64_0 _ _)) ⟨_, rfl, hS, Below.refl _ _, rfl⟩)⟩
    · obtain rfl := Option.some.inj ho; exact ⟨rfl, rfl, (by exact wpW_val (r_load62 (.tmp 22) ⟨bg, 0, none⟩ rfl (hpre ⟨2, .data⟩ (by simp) rfl) (hfw hS).2) ⟨_, rfl, hS, Below.refl _ _, rfl⟩)⟩
    · obtain rfl := Option.some.inj ho; exact ⟨rfl, rfl, (by exact wpW_val (r_load82 (.tmp 8) _ _ xs rfl (hsame.out 8 (by decide)) ((KC.of_below hS).range hrx)) ⟨_, rfl, hS, Below.refl _ _, rfl⟩)⟩
    · obtain rfl := Option.some.inj ho; exact ⟨rfl, rfl, (by exact wpW_call (r_call2 (.tmp 23) (.tmp 24) _ _ _ rfl (hpre ⟨3, .data⟩ (by simp) rfl) (hpre ⟨4, .data⟩ (by simp) rfl) call75) (period_R hv hc hp (hfw hS).1 hnx) (fun v w'' h => ⟨v, rfl, hS.trans (h.2.mono hS.size), h.2, h.1⟩))⟩
  intro a w2 hS hsame hsl
  obtain ⟨k', hk1', -, hu⟩ := hsl 5 (by omega)
  rw [hk1'.unique hk] at hu
  obtain ⟨vs, hvs, hfr⟩ := hsame.frameV 44 rfl
  refine wpOpIn_of (o := ⟨some 10, .assign (.tmp 25), 3, _, _, none⟩) rfl rfl (wpW_val (r_asg (.tmp 25) rfl hu) ?_)
  have hS2 := hS
  have hrx := (KC.of_below hS).range hrx
  have hfw : ∀ {w : World}, Below w2.heap.size w2 w → RulesAt w br P ∧ w.cell? ⟨bg, 0, none⟩ = some (.pointer (some ⟨br, 0, none⟩)) := fun h => hfw (hS.trans (h.mono hS.size))
  have hbw := hbw.trans (hS.mono hbw.size)
  clear hkc hsl hsame hvs hu hS hS2 hk1'
  subst hfr
  dsimp only
  simp only [Act.put, List.range, List.range.loop, List.map_cons, List.map_nil, List.any_cons, List.any_nil, dmPow, List.getD_cons_zero, List.getD_cons_succ, Nat.reduceBEq, Bool.or_false, Bool.or_true, Bool.false_eq_true, if_true, if_false, List.setIfInBounds_toArray, List.set_cons_succ, List.set_cons_zero]
  gi_wp2_with fail
  generalize w2 = W1 at *
  have hr0 := HR0.out
  refine wpIn_region_tail (by kernel_rfl) 26 18 (tailed_of (by kernel_rfl)) (fun w => Below W1.heap.size W1 w) (fun q v w => ((([SW2.s (SW.c (.pointer (some ⟨bg, 0, none⟩))), SW2.s (SW.c (.pointer (some ⟨bg, 0, none⟩))), SW2.s (SW.c (.pointer (some ⟨bg, 0, none⟩))), SW2.s (SW.c (.pointer (some ⟨br, 0, none⟩))), SW2.s (SW.c (.pointer (some ⟨bg, 0, none⟩))), SW2.s (SW.c (.pointer (some ⟨bg, 0, none⟩))), SW2.s (SW.c (.pointer (some ⟨bg, 0, none⟩))), SW2.s (SW.c (.pointer (some ⟨br, 0, none⟩))), SW2.s (SW.c (.agg (vec xs).toArray)), SW2.s (SW.c (.int .i64 n)), SW2.s (SW.c (.int .i64 (k : Int))), SW2.s (SW.c (.int .i64 (n.tmod k))), SW2.s (SW.c (.int .i64 (k : Int))), SW2.s (SW.c (.int .i64 (n.tmod k + k))), SW2.s (SW.c (.int .i64 (k : Int))), SW2.s (SW.c (.int .i64 ((r : Nat) : Int))), SW2.s (SW.c (.agg (vec (npow P xs r)).toArray)), SW2.s (SW.il (npow P xs r))]) : List SW2).getD q SW2.any).holds P v w) (fun w w' => Below w.heap.size w w') (fun q v w w' h => SW2.keep h) (Nat.le_of_ble_eq_true rfl) (Below.refl _ _).drew ?_ ?_
  · intro q o a w hq ho hS hsame hpre
    have hcases : q = 0 ∨ q = 1 ∨ q = 2 ∨ q = 3 ∨ q = 4 ∨ q = 5 ∨ q = 6 ∨ q = 7 ∨ q = 8 ∨ q = 9 ∨ q = 10 ∨ q = 11 ∨ q = 12 ∨ q = 13 ∨ q = 14 ∨ q = 15 ∨ q = 16 ∨ q = 17 := by omega
    rcases hcases with rfl | rfl | rfl | rfl | rfl | rfl | rfl | rfl | rfl | rfl | rfl | rfl | rfl | rfl | rfl | rfl | rfl | rfl
    · obtain rfl := Option.some.inj ho; exact ⟨rfl, rfl, (by exact wpW_val (r_move (.tmp 0) rfl (hsame.out 0 (.inl (by decide)))) ⟨_, rfl, hS, Below.refl _ _, rfl⟩)⟩
    · obtain rfl := Option.some.inj ho; exact ⟨rfl, rfl, (by exact wpW_val (r_nil (.tmp 26) _ rfl (hpre ⟨0, .data⟩ (by simp) rfl)) ⟨_, rfl, hS, Below.refl _ _, rfl⟩)⟩
    · obtain rfl := Option.some.inj ho; exact ⟨rfl, rfl, (by exact wpW_val (r_fld (.tmp 27) _ rfl (hpre ⟨1, .data⟩ (by simp) rfl) (fld64_0 _ _)) ⟨_, rfl, hS, Below.refl _ _, rfl⟩)⟩
    · obtain rfl := Option.some.inj ho; exact ⟨rfl, rfl, (by exact wpW_val (r_load62 (.tmp 28) ⟨bg, 0, none⟩ rfl (hpre ⟨2, .data⟩ (by simp) rfl) (hfw hS).2) ⟨_, rfl, hS, Below.refl _ _, rfl⟩)⟩
    · obtain rfl := Option.some.inj ho; exact ⟨rfl, rfl, (by exact wpW_val (r_move (.tmp 0) rfl (hsame.out 0 (.inl (by decide)))) ⟨_, rfl, hS, Below.refl _ _, rfl⟩)⟩
    · obtain rfl := Option.some.inj ho; exact ⟨rfl, rfl, (by exact wpW_val (r_nil (.tmp 30) _ rfl (hpre ⟨4, .data⟩ (by simp) rfl)) ⟨_, rfl, hS, Below.refl _ _, rfl⟩)⟩
    · obtain rfl := Option.some.inj ho; exact ⟨rfl, rfl, (by exact wpW_val (r_fld (.tmp 31) _ rfl (hpre ⟨5, .data⟩ (by simp) rfl) (fld64_0 _ _)) ⟨_, rfl, hS, Below.refl _ _, rfl⟩)⟩
    · obtain rfl := Option.some.inj ho; exact ⟨rfl, rfl, (by exact wpW_val (r_load62 (.tmp 32) ⟨bg, 0, none⟩ rfl (hpre ⟨6, .data⟩ (by simp) rfl) (hfw hS).2) ⟨_, rfl, hS, Below.refl _ _, rfl⟩)⟩
    · obtain rfl := Option.some.inj ho; exact ⟨rfl, rfl, (by exact wpW_val (r_load82 (.tmp 8) _ _ xs rfl (hsame.out 8 (.inl (by decide))) ((KC.of_below hS).range hrx)) ⟨_, rfl, hS, Below.refl _ _, rfl⟩)⟩
    · obtain rfl := Option.some.inj ho; exact ⟨rfl, rfl, (by exact wpW_val (r_move (.tmp 2) rfl (hsame.out 2 (.inl (by decide)))) ⟨_, rfl, hS, Below.refl _ _, rfl⟩)⟩
    · obtain rfl := Option.some.inj ho; exact ⟨rfl, rfl, (by exact wpW_val (r_move (.tmp 10) rfl (hsame.out 10 (.inl (by decide)))) ⟨_, rfl, hS, Below.refl _ _, rfl⟩)⟩
    · obtain rfl := Option.some.inj ho; exact ⟨rfl, rfl, (by exact wpW_val (r_rem (.tmp 35) (.tmp 36) n k rfl (hpre ⟨9, .data⟩ (by simp) rfl) (hpre ⟨10, .data⟩ (by simp) rfl) hk0 hk1) ⟨_, rfl, hS, Below.refl _ _, rfl⟩)⟩
    · obtain rfl := Option.some.inj ho; exact ⟨rfl, rfl, (by exact wpW_val (r_move (.tmp 10) rfl (hsame.out 10 (.inl (by decide)))) ⟨_, rfl, hS, Below.refl _ _, rfl⟩)⟩
    · obtain rfl := Option.some.inj ho; exact ⟨rfl, rfl, (by exact wpW_val (r_add (.tmp 37) (.tmp 38) (n.tmod k) k rfl (hpre ⟨11, .data⟩ (by simp) rfl) (hpre ⟨12, .data⟩ (by simp) rfl) (by omega) (by omega)) ⟨_, rfl, hS, Below.refl _ _, rfl⟩)⟩
    · obtain rfl := Option.some.inj ho; exact ⟨rfl, rfl, (by exact wpW_val (r_move (.tmp 10) rfl (hsame.out 10 (.inl (by decide)))) ⟨_, rfl, hS, Below.refl _ _, rfl⟩)⟩
    · obtain rfl := Option.some.inj ho; exact ⟨rfl, rfl, (by exact wpW_val (r_rem (.tmp 39) (.tmp 40) (n.tmod k + k) k rfl (hpre ⟨13, .data⟩ (by simp) rfl) (hpre ⟨14, .data⟩ (by simp) rfl) hk0 hk1) ⟨_, rfl, hS, Below.refl _ _, by show (Value.int .i64 _ : Value) = _; rw [hr0]⟩)⟩
    · obtain rfl := Option.some.inj ho; exact ⟨rfl, rfl, (by exact wpW_call (r_call3 (.tmp 33) (.tmp 34) (.tmp 41) _ _ _ _ rfl (hpre ⟨7, .data⟩ (by simp) rfl) (hpre ⟨8, .data⟩ (by simp) rfl) (hpre ⟨15, .data⟩ (by simp) rfl) call76) (power_R hv hc (by omega) (hfw hS).1 hnx) (fun v w'' h => ⟨v, rfl, hS.trans (h.2.mono hS.size), h.2, h.1⟩))⟩
    · obtain rfl := Option.some.inj ho; exact ⟨rfl, rfl, (by exact wpW_call (r_call2 (.tmp 29) (.tmp 42) _ _ _ rfl (hpre ⟨3, .data⟩ (by simp) rfl) (hpre ⟨16, .data⟩ (by simp) rfl) call70) (list_R hv (hfw hS).1 hnz) (fun v w'' h => ⟨v, rfl, hS.trans (h.2.mono hS.size), h.2, h.1⟩))⟩
  · intro a w' hS hsame hsl
    have hu := hsl 17 (by omega)
    have hfr := hsame.frame (Nat.le_of_ble_eq_true rfl)
    refine wpOpIn_of (o := ⟨some 6, .assign (.tmp 43), 22, _, _, none⟩) rfl rfl (wpW_val (r_asg (.tmp 43) rfl rfl) (wpOpIn_of (o := ⟨some 7, .assign (.const (.int .i64 0)), 29, _, _, none⟩) rfl rfl (wpW_val (r_asg (.const (.int .i64 0)) rfl rfl) ?_)))
    have e41 : a.eval (.tmp 43) = a.tmps.getD (26 + 17) undef := rfl
    have ec : ∀ a : Act, a.eval (.const (.int .i64 0)) = .int .i64 0 := fun _ => rfl
    rw [e41, ec]
    generalize a.tmps.getD (26 + 17) undef = u at *
    have HU : IntsAt w' u (npow P xs r) := hu
    clear hu hsl hsame e41 ec
    generalize (fun i => a.tmps.getD (26 + i) undef) = vs at hfr
    subst hfr
    dsimp only
    simp only [Act.put, List.take_succ_cons, List.take_zero, List.drop_succ_cons, List.drop_zero, List.map_cons, List.map_nil, List.range, List.range.loop, List.cons_append, List.nil_append, List.append_nil, List.setIfInBounds_toArray, List.set_cons_succ, List.set_cons_zero, Nat.reduceAdd]
    have hfin : ListRet (npow P xs r) w (.returned (.tuple #[u, .int .i64 0])) w' := ⟨⟨u, rfl, HU⟩, hbw.trans (hS.mono hbw.size)⟩
    clear hfw hnx hnz hrx hr0 HR0 hbw HO HR HG HS1 HU hS
    gi_wp2_with fail
    exact bodyPost_ret (results_tmp2 (t := 6) (u := 7) rfl _ _ _) rfl hfin

theorem pow_live {P : PcD} (hv : Valid P) (hc : consB P = true) (hp : prod P P.n ≤ 50000) (w : World) (bg br : Nat) (hg : Live w bg br) (hr : RulesAt w br P) (s1 : Value) (xs : List Int) (n : Int) (h1 : IntsAt w s1 xs) (hx : takeErr P xs = 0) (k : Nat) (hk : IsPer P xs k) (hk5 : (k : Int) ≤ 50000) :
    Calls Try.prog 34 #[.pointer (some ⟨bg, 0, none⟩), s1, .int .i64 n] w (ListRet (npow P xs (n % (k : Int)).toNat) w) := callsIn_wide.1 (pow_live_in hv hc hp w bg br hg hr s1 xs n h1 hx k hk hk5)
end Go.Proofs
namespace Go.Proofs.Pc

/-- the last d entries of the list with rank r, and what is left of r -/
def elTo (P : PcD) (r : Int) (d : Nat) : V × Int := foldTo (fun d s => (s.1.set (P.n - 1 - d) (s.2 % P.ord (P.n - 1 - d)), s.2 / P.ord (P.n - 1 - d))) d (zV P, r)
def elP (P : PcD) (r : Int) : V := (elTo P r P.n).1
theorem elTo_succ (P : PcD) (r : Int) (d : Nat) : elTo P r (d + 1) = ((elTo P r d).1.set (P.n - 1 - d) ((elTo P r d).2 % P.ord (P.n - 1 - d)), (elTo P r d).2 / P.ord (P.n - 1 - d)) := rfl
section
variable {P : PcD} (hv : Valid P)
include hv
theorem elTo_inv {r : Int} (h0 : 0 ≤ r) (h1 : r < prod P P.n) : ∀ (d : Nat), d ≤ P.n → NV P (elTo P r d).1 ∧ 0 ≤ (elTo P r d).2 ∧ (elTo P r d).2 < prod P (P.n - d) ∧
    ∀ y : V, rk P y (P.n - d) = (elTo P r d).2 → (∀ j, P.n - d ≤ j → j < P.n → y.getD j 0 = (elTo P r d).1.getD j 0) → rk P y P.n = r
  | 0, _ => ⟨NV_z hv, h0, h1, fun y hy _ => hy⟩
  | d + 1, hd => by
    obtain ⟨n1, n2, n3, n4⟩ := elTo_inv h0 h1 d (by omega)
    obtain ⟨i, hi⟩ : ∃ i, P.n - 1 - d = i := ⟨_, rfl⟩
    have hin : i < P.n := by omega
    have hid : P.n - d = i + 1 := by omega
    have hid' : P.n - (d + 1) = i := by omega
    have ho := hv.ord2 i hin
    rw [elTo_succ, hi, hid']
    rw [hid, prod_succ] at n3
    rw [hid] at n4
    have hm := Int.emod_nonneg (elTo P r d).2 (show P.ord i ≠ 0 by omega)
    have hm2 := Int.emod_lt_of_pos (elTo P r d).2 (show 0 < P.ord i by omega)
    refine ⟨⟨by simp [n1.1], fun j hj => ?_⟩, Int.ediv_nonneg n2 (by omega), Int.ediv_lt_of_lt_mul (by omega) n3, fun y hy hyj => n4 y ?_ fun j hj hjn => ?_⟩
    · rw [getD_set]
      split
      · rename_i e; rw [← e.1]; exact ⟨hm, hm2⟩
      · exact n1.2 j hj
    · rw [rk_succ, hy, hyj i (Nat.le_refl _) hin, getD_set, if_pos ⟨rfl, by rw [n1.1]; exact hin⟩]
      have := Int.mul_ediv_add_emod (elTo P r d).2 (P.ord i)
      rw [Int.mul_comm] at this
      exact this
    · rw [hyj j (by omega) hjn, getD_set, if_neg (by omega)]
theorem elP_NV {r : Int} (h0 : 0 ≤ r) (h1 : r < prod P P.n) : NV P (elP P r) := (elTo_inv hv h0 h1 P.n (Nat.le_refl _)).1
theorem rk_el {r : Int} (h0 : 0 ≤ r) (h1 : r < prod P P.n) : rk P (elP P r) P.n = r := by
  obtain ⟨-, n2, n3, n4⟩ := elTo_inv hv h0 h1 P.n (Nat.le_refl _)
  rw [Nat.sub_self] at n3 n4
  have : prod P 0 = 1 := rfl
  exact n4 (elP P r) (by show (0 : Int) = _; omega) fun j _ _ => rfl
theorem el_rk {x : V} (hx : NV P x) : elP P (rk P x P.n) = x := by
  have hb := rk_bd hv hx P.n (Nat.le_refl _)
  have h1 := elP_NV hv hb.1 hb.2
  exact ext_len h1.1 hx.1 (rk_inj hv h1 hx P.n (Nat.le_refl _) (rk_el hv hb.1 hb.2))
end
end Go.Proofs.Pc
namespace Go.Proofs
open Go.RowKit Go.Proofs.Pc

set_option maxRecDepth 100000 in
set_option maxHeartbeats 1000000 in
theorem rank_live {P : PcD} (hv : Valid P) (hs : Small P) (w : World) (bg br : Nat) (hg : Live w bg br) (hr : RulesAt w br P) (s1 : Value) (xs : List Int) (h1 : IntsAt w s1 xs) (hx : takeErr P xs = 0) :
    Calls Try.prog 42 #[.pointer (some ⟨bg, 0, none⟩), s1] w fun e w' => e = .returned (.tuple #[.int .i64 (rk P xs P.n), .int .i64 0]) ∧ Below w.heap.size w w' := by
  have hnx := takeErr_NV hx
  have h12 := hv.n12
  have HR := Lib.hid hr
  have HG := Lib.hid hg
  have hst := store_vec_at
  have HO := Lib.hid (take_R hv hg hr h1 hx)
  clear hr hg h1
  go_enter Try.func42, Try.ntmps42
  go_wp2_with (go_at_call 69; (refine HO.out.mono ?_); rintro e w1 ⟨v, rfl, rfl, hb1⟩
               have hbw : Below w.heap.size w (w1.alloc (.cells (vec xs).toArray 82)) := hb1.alloc hb1.size _
               have hge := (KC.of_below hbw).cell HG.out
               have hrn := ((KC.of_below hbw).rules HR.out).n
               have HB := Lib.hid hbw
               clear hbw)
  have hbx := heap_alloc_new w1 (.cells (vec xs).toArray 82)
  have hrr := (KC.of_below HB.out).rules HR.out
  generalize w1.alloc (.cells (vec xs).toArray 82) = W at *
  generalize w1.heap.size = bx at *
  have HBX := Lib.hid hbx
  have HRR := Lib.hid hrr
  clear hb1 hst HO hbx hrr
  go_loopw [8, 26] (fun s i wr => ∃ k : Nat, k ≤ P.n ∧ i = .int .i64 k ∧ s = .int .i64 (rk P xs k) ∧ ∃ q, wr = W.drewN q) (fun _ i _ => P.n - (intOf i).toNat)
  case atStart => exact ⟨0, Nat.zero_le _, rfl, rfl, 0, rfl⟩
  case round =>
    obtain ⟨k, hk, rfl, rfl, q, rfl⟩ := hrel
    by_cases hlt : k < P.n
    · have c1 := HRR.out.ordc (i := k) (by omega)
      have c2 := cell_of_heap HBX.out (k := k) (by omega)
      have hbd := rk_bd hv hnx (k + 1) (by omega)
      have hbd0 := rk_bd hv hnx k (by omega)
      have hsm := hs (k + 1) (by omega)
      have hsm0 := hs k (by omega)
      have hxk := hnx.2 k hlt
      have hok := hv.ord2 k hlt
      rw [rk_succ] at hbd
      have hm1 : 0 ≤ rk P xs k * P.ord k := Int.mul_nonneg hbd0.1 (by omega)
      have HS := Lib.hid (rk_succ P xs k)
      have hk0 : (0 : Int) ≤ (k : Int) := Int.natCast_nonneg _
      have hk1 : (k : Int) < 12 := by omega
      generalize xs.getD k 0 = z at *
      generalize rk P xs k = a at *
      generalize P.ord k = y at *
      have hw1 : IntKind.i64.wrap (a * y) = a * y := IntWalk.i64_in _ (by omega)
      have hw2 : IntKind.i64.wrap (a * y + z) = a * y + z := IntWalk.i64_in _ (by omega)
      clear hbd hbd0 hsm hsm0 hm1
      go_wp2_with fail
      go_quiet (fail)
      go_wp2_with fail
      go_roundw
      case rel => exact ⟨k + 1, by omega, by go_num, by rw [HS.out], _, rfl⟩
      case measure => simp [intOf]; omega
    · obtain rfl : k = P.n := by omega
      go_wp2_with fail
      go_ret2
      exact ⟨rfl, below_drewN HB.out _⟩

theorem valid_live' (w : World) (bg br : Nat) (h : Live w bg br) : Calls Try.prog 54 #[.pointer (some ⟨bg, 0, none⟩)] w fun e w' => e = .returned (.bool true) ∧ w = w' := (valid_live w bg br h).mono fun _ _ ⟨a, b⟩ => ⟨a, b.symm⟩
theorem order_live' {P : PcD} (hv : Valid P) (hs : Small P) (w : World) (bg br : Nat) (hg : Live w bg br) (hr : RulesAt w br P) : Calls Try.prog 18 #[.pointer (some ⟨bg, 0, none⟩)] w fun e w' => e = .returned (.int .i64 (prod P P.n)) ∧ w = w' := (order_live hv hs w bg br hg hr).mono fun _ _ ⟨a, b⟩ => ⟨a, b.symm⟩
set_option maxRecDepth 100000 in
set_option maxHeartbeats 1000000 in
theorem element_bad {P : PcD} (hv : Valid P) (hs : Small P) (w : World) (bg br : Nat) (hg : Live w bg br) (hr : RulesAt w br P) (r : Int) (h : r < 0 ∨ prod P P.n ≤ r) :
    Calls Try.prog 38 #[.pointer (some ⟨bg, 0, none⟩), .int .i64 r] w fun e w' => e = .returned (.tuple #[.slice none 0 0, .int .i64 2]) ∧ w = w' := by
  by_cases h0 : r < 0
  · go_enter Try.func38, Try.ntmps38
    go_wp2_with (go_at_call 54; refine (valid_live' w bg br hg).mono ?_; rintro e w' ⟨rfl, rfl⟩)
    go_ret2
    exact ⟨rfl, rfl⟩
  · have d1 : decide (r < 0) = false := decide_eq_false h0
    have d2 : decide (prod P P.n ≤ r) = true := decide_eq_true (by omega)
    go_enter Try.func38, Try.ntmps38
    go_wp2_with (first
      | (go_at_call 54; refine (valid_live' w bg br hg).mono ?_; rintro e w' ⟨rfl, rfl⟩)
      | (go_at_call 18; (refine (order_live' hv hs _ bg br hg hr).mono ?_); rintro e w' ⟨rfl, rfl⟩))
    go_ret2
    exact ⟨rfl, rfl⟩
set_option maxRecDepth 100000 in
set_option maxHeartbeats 1000000 in
theorem element_live {P : PcD} (hv : Valid P) (hs : Small P) (w : World) (bg br : Nat) (hg : Live w bg br) (hr : RulesAt w br P) (r : Int) (h0 : 0 ≤ r) (h1 : r < prod P P.n) :
    Calls Try.prog 38 #[.pointer (some ⟨bg, 0, none⟩), .int .i64 r] w (ListRet (elP P r) w) := by
  have d1 : decide (r < 0) = false := decide_eq_false (by omega)
  have d2 : decide (prod P P.n ≤ r) = false := decide_eq_false (by omega)
  have h12 := hv.n12
  have hge := hg
  unfold Live at hge
  have hge' := hge
  have hal : Below w.heap.size w (w.alloc (.cells #[.int .i64 0, .int .i64 0, .int .i64 0, .int .i64 0, .int .i64 0, .int .i64 0, .int .i64 0, .int .i64 0, .int .i64 0, .int .i64 0, .int .i64 0, .int .i64 0] 82)) := (Below.refl _ _).alloc (Nat.le_refl _) _
  have hgn := (KC.of_below hal).cell hge
  have hrn := ((KC.of_below hal).rules hr).n
  have HR := Lib.hid hr
  have HG := Lib.hid hg
  have HBX : Hid ((w.alloc (.cells #[.int .i64 0, .int .i64 0, .int .i64 0, .int .i64 0, .int .i64 0, .int .i64 0, .int .i64 0, .int .i64 0, .int .i64 0, .int .i64 0, .int .i64 0, .int .i64 0] 82)).heap[w.heap.size]? = some (.cells (vec (zV P)).toArray 82 (0, 0))) := Lib.hid (by rw [vec_zV]; exact heap_alloc_new _ _)
  have HB := Lib.hid hal
  clear hr hg hal hge'
  go_enter Try.func38, Try.ntmps38
  go_wp2_with (first
    | (go_at_call 54; refine (valid_live' w bg br HG.out).mono ?_; rintro e w' ⟨rfl, rfl⟩)
    | (go_at_call 18; (refine (order_live' hv hs _ bg br HG.out HR.out).mono ?_); rintro e w' ⟨rfl, rfl⟩))
  generalize w.alloc (.cells #[.int .i64 0, .int .i64 0, .int .i64 0, .int .i64 0, .int .i64 0, .int .i64 0, .int .i64 0, .int .i64 0, .int .i64 0, .int .i64 0, .int .i64 0, .int .i64 0] 82) = W at *
  have HEI := Lib.hid (elTo_inv hv h0 h1)
  go_loopw [1, 7] (fun s1 s7 wr => ∃ d : Nat, d ≤ P.n ∧ (∃ z : Int, s7 = .int .i64 z ∧ z = (P.n : Int) - 1 - d) ∧ s1 = .int .i64 (elTo P r d).2 ∧ wr.heap[w.heap.size]? = some (.cells (vec (elTo P r d).1).toArray 82 (0, 0)) ∧ Below w.heap.size w wr) (fun _ s7 _ => (intOf s7 + 1).toNat)
  case atStart => exact ⟨0, Nat.zero_le _, ⟨_, rfl, by simp⟩, rfl, HBX.out, HB.out⟩
  case round =>
    obtain ⟨d, hd, ⟨z7, rfl, e7⟩, rfl, hY, hB⟩ := hrel
    obtain ⟨n1, n2, n3, -⟩ := HEI.out d hd
    have HN1 := Lib.hid n1
    have HY := Lib.hid hY
    have HBB := Lib.hid hB
    have HS := Lib.hid (elTo_succ P r d)
    have hwsz : w.heap.size < wr.heap.size := (Array.getElem?_eq_some_iff.1 hY).1
    by_cases hlt : d < P.n
    · obtain ⟨i, hi⟩ : ∃ i, P.n - 1 - d = i := ⟨_, rfl⟩
      have hin : i < P.n := by omega
      obtain rfl : z7 = (i : Int) := by omega
      have hrr := (KC.of_below hB).rules HR.out
      have hge1 : wr.cell? ⟨bg, 0, none⟩ = some (.pointer (some ⟨br, 0, none⟩)) := (KC.of_below hB).cell HG.out
      have hgd : wr.drew.cell? ⟨bg, 0, none⟩ = some (.pointer (some ⟨br, 0, none⟩)) := hge1
      have c1 := hrr.ordc (i := i) (by omega)
      have hoi := hv.ord2 i hin
      rw [hi] at HS
      have hi0 : (0 : Int) ≤ (i : Int) := Int.natCast_nonneg _
      have hi12 : (i : Int) < 12 := by omega
      have hcy := cell_of_heap hY (k := i) (by omega)
      have hfy : wr.frozen? ⟨w.heap.size, i, none⟩ = false := by simp [World.frozen?, hY]
      have hbg : bg ≠ w.heap.size := by have := World.block_lt_of_cell? w _ HG.out; simp at this; omega
      have hbr : br ≠ w.heap.size := by have := HR.out.lt; omega
      have hz5 := hs (P.n - d) (by omega)
      generalize (elTo P r d).2 = z at *
      generalize hvx : (elTo P r d).1 = v at *
      have HVX := Lib.hid hvx
      generalize P.ord i = y at *
      generalize hvi : v.getD i 0 = vi at *
      have HQ : Hid (IntKind.i64.wrap (z.tdiv y) = z / y) := Lib.hid (by
        rw [Int.tdiv_eq_ediv_of_nonneg n2]
        have h1 := Int.ediv_nonneg n2 (show 0 ≤ y by omega)
        have h2 := Int.ediv_le_self y n2
        exact IntWalk.i64_in _ (by omega))
      have HM : Hid (z.tmod y = z % y) := Lib.hid (Int.tmod_eq_emod_of_nonneg n2)
      have hida : i + 1 + d ≤ P.n := by omega
      have hidb : P.n ≤ i + 1 + d := by omega
      have hy0 : (y == 0) = false := beq_eq_false_iff_ne.2 (by omega)
      have hy1 : y ≠ 0 := by omega
      have HK : Hid (∀ v : Value, (wr.setCell ⟨w.heap.size, i, none⟩ v).drew.cell? ⟨bg, 0, none⟩ = some (.pointer (some ⟨br, 0, none⟩)) ∧ (wr.setCell ⟨w.heap.size, i, none⟩ v).drew.cell? ⟨br, 1 + i, none⟩ = some (.int .i64 y)) :=
        Lib.hid fun v => ⟨(World.cell?_of_block (w := wr) (a := ⟨bg, 0, none⟩) (Below.heap_setCell wr ⟨w.heap.size, i, none⟩ v bg hbg)).trans hge1, (World.cell?_of_block (w := wr) (a := ⟨br, 1 + i, none⟩) (Below.heap_setCell wr ⟨w.heap.size, i, none⟩ v br hbr)).trans c1⟩
      have HK0 : Hid (wr.drew.cell? ⟨bg, 0, none⟩ = some (.pointer (some ⟨br, 0, none⟩)) ∧ wr.drew.cell? ⟨br, 1 + i, none⟩ = some (.int .i64 y)) := Lib.hid ⟨hge1, c1⟩
      clear n1 hY hB e7 hrr n3 hi hvx hvi hgd
      go_wp2_with fail
      go_region_held3 (fun w' => w'.cell? ⟨bg, 0, none⟩ = some (.pointer (some ⟨br, 0, none⟩)) ∧ w'.cell? ⟨br, 1 + i, none⟩ = some (.int .i64 y)) (first | exact HK.out _ | exact HK0.out) (fail)
      rw [HQ.out, HM.out]
      have h6 := setCell_vec (v := z % y) HY.out (show i < v.length by rw [HN1.out.1]; exact hin)
      have HY6 : Hid ((wr.setCell ⟨w.heap.size, i, none⟩ (.int .i64 (z % y))).drew.heap[w.heap.size]? = some (.cells (vec (elTo P r (d + 1)).1).toArray 82 (0, 0))) := Lib.hid (by rw [HS.out]; exact h6)
      have HB6 : Hid (Below w.heap.size w (wr.setCell ⟨w.heap.size, i, none⟩ (.int .i64 (z % y))).drew) := Lib.hid ((HBB.out.setCell (p := ⟨w.heap.size, i, none⟩) (Nat.le_refl _) _).drew)
      have HZ : Hid ((elTo P r (d + 1)).2 = z / y) := Lib.hid (by rw [HS.out])
      clear h6
      go_wp2_with fail
      go_roundw
      case rel => exact ⟨d + 1, by omega, ⟨_, rfl, by push_cast; omega⟩, by rw [HZ.out], HY6.out, HB6.out⟩
      case measure => simp [intOf]
    · obtain rfl : d = P.n := by omega
      obtain rfl : z7 = -1 := by omega
      have HE : Hid (elP P r = (elTo P r P.n).1) := Lib.hid rfl
      have hge1 : wr.cell? ⟨bg, 0, none⟩ = some (.pointer (some ⟨br, 0, none⟩)) := (KC.of_below hB).cell HG.out
      have hrr := (KC.of_below hB).rules HR.out
      have HRR := Lib.hid hrr
      generalize (elTo P r P.n).1 = v at *
      have hu := Try.underlying82
      have hi := show (Try.prog.info? 82).map (·.size) = some (vec v).length by rw [length_vec]; exact info82
      have hl := length_vec v
      have ho : ∀ u ∈ vec v, u.oneCell' = true := fun u hu => by simp [vec] at hu; obtain ⟨k, _, rfl⟩ := hu; rfl
      have HK0 : Hid (wr.drew.cell? ⟨bg, 0, none⟩ = some (.pointer (some ⟨br, 0, none⟩)) ∧ wr.drew.rangeAt w.heap.size 0 (vec v)) := Lib.hid ⟨hge1, range_of_heap hY⟩
      have HRD := Lib.hid ((KC.of_below (Below.refl wr.heap.size wr).drew).rules hrr)
      clear n1 n2 n3 e7 hY hB hrr
      go_wp2_with fail
      go_region_held3 (fun w' => w'.cell? ⟨bg, 0, none⟩ = some (.pointer (some ⟨br, 0, none⟩)) ∧ w'.rangeAt w.heap.size 0 (vec v)) (first | exact HK0.out | exact HK9.out)
        (first
          | (go_at_call 70; (refine (list_any hv _ br HRD.out v HN1.out).mono ?_); rintro e w9 ⟨u, rfl, hu9, hb9⟩; have HU9 := Lib.hid hu9; have HK9 : Hid (w9.cell? ⟨bg, 0, none⟩ = some (.pointer (some ⟨br, 0, none⟩)) ∧ w9.rangeAt w.heap.size 0 (vec v)) := Lib.hid ⟨(KC.of_below hb9).cell HK0.out.1, (KC.of_below hb9).range HK0.out.2⟩; have HB9 := Lib.hid hb9; clear hu9 hb9))
      have hfin : ListRet (elP P r) w (.returned (.tuple #[u, .int .i64 0])) w9 := ⟨⟨u, rfl, by rw [HE.out]; exact HU9.out⟩, HBB.out.trans (((Below.refl wr.heap.size wr).drew.trans HB9.out).mono HBB.out.size)⟩
      have HF := Lib.hid hfin
      clear hfin hu hi hl ho hgn hrn hge1
      go_wp2_with fail
      go_ret2
      exact HF.out
end Go.Proofs
namespace Go.Proofs.Pc

def goodL (P : PcD) (x : Int) : Prop := x ≠ 0 ∧ -(P.n : Int) ≤ x ∧ x ≤ (P.n : Int)
instance (P : PcD) (x : Int) : Decidable (goodL P x) := by unfold goodL; infer_instance
/-- the list of a letter -/
def gen (P : PcD) (x : Int) : V := if 0 < x then uP P (x - 1).toNat 1 else invP P (uP P (-x - 1).toNat 1)
def stepW (P : PcD) (x : Int) (c : V) : V := mulP P c (gen P x)
def evTo (P : PcD) (ws : List Int) (k : Nat) : V := foldTo (fun k c => stepW P (ws.getD k 0) c) k (zV P)
def evW (P : PcD) (ws : List Int) : V := evTo P ws ws.length
theorem evTo_succ (P : PcD) (ws : List Int) (k : Nat) : evTo P ws (k + 1) = stepW P (ws.getD k 0) (evTo P ws k) := rfl
theorem stepW_neg (P : PcD) (i : Nat) (c : V) : stepW P (-(i : Int) - 1) c = mulP P c (invP P (uP P i 1)) := by
  unfold stepW gen
  rw [if_neg (by omega), show (-(-(i : Int) - 1) - 1).toNat = i by omega]
theorem stepW_pos (P : PcD) (i : Nat) (c : V) (hi : i < P.n) : stepW P ((i : Int) + 1) c = T P i c := by
  unfold stepW gen
  rw [if_pos (by omega), show ((i : Int) + 1 - 1).toNat = i by omega, mul_unit hi]
section
variable {P : PcD} (hv : Valid P)
include hv
theorem evTo_NV {ws : List Int} (k : Nat) : NV P (evTo P ws k) := foldTo_inv (p := NV P) k (fun _ _ _ hz => mulP_NV hv hz) _ (NV_z hv)
theorem gen_NV {x : Int} (_h : goodL P x) : NV P (gen P x) := by
  unfold gen
  split
  · exact NV_c hv _
  · exact invP_NV hv (NV_c hv _)
omit hv in
theorem evTo_take (ws vs : List Int) : ∀ (k : Nat), k ≤ ws.length → evTo P (ws ++ vs) k = evTo P ws k
  | 0, _ => rfl
  | k + 1, h => by
    rw [evTo_succ, evTo_succ, evTo_take ws vs k (by omega)]
    congr 1
    simp [List.getD_eq_getElem?_getD, List.getElem?_append_left (show k < ws.length by omega)]
theorem evW_app (hc : consB P = true) (ws vs : List Int) (hw : ∀ k, k < vs.length → goodL P (vs.getD k 0)) : evW P (ws ++ vs) = mulP P (evW P ws) (evW P vs) := by
  have key : ∀ k, k ≤ vs.length → evTo P (ws ++ vs) (ws.length + k) = mulP P (evW P ws) (evTo P vs k) := by
    intro k
    induction k with
    | zero => intro _; show evTo P (ws ++ vs) ws.length = _; rw [evTo_take ws vs _ (Nat.le_refl _)]; exact (mul_zero _).symm
    | succ k ih =>
      intro hk
      show evTo P (ws ++ vs) ((ws.length + k) + 1) = _
      rw [evTo_succ, ih (by omega), evTo_succ]
      have e : (ws ++ vs).getD (ws.length + k) 0 = vs.getD k 0 := by
        simp [List.getD_eq_getElem?_getD, List.getElem?_append_right (show ws.length ≤ ws.length + k by omega)]
      rw [e]
      unfold stepW
      exact (mul_assoc hv hc (evTo_NV hv _) (evTo_NV hv _) (gen_NV hv (hw k (by omega)))).symm
  have := key vs.length (Nat.le_refl _)
  unfold evW at this ⊢
  rwa [← List.length_append] at this
end
end Go.Proofs.Pc
