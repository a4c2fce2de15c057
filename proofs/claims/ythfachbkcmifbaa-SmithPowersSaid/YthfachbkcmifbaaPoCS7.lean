/- (smith.work).run: the loop over the steps, and the closure that catches a failure; slices.Clone at a list of numbers; smith.Check; smith.identity; The matrix of the procedure grows by a row; what smith.Smith comes to. -/
import Derived.Test.YthfachbkcmifbaaPoCS6
import Derived.Defers
import Derived.Recover
import Derived.Deep.RegionLaw
namespace Go.Proofs
open Go.RowKit Go.Shelf Go.Proofs.Sm
/-- the least number with a property -/
noncomputable def leastN (P : Nat → Prop) : Nat := by
  classical
  exact if h : ∃ n, P n ∧ ∀ m, m < n → ¬ P m then Classical.choose h else 0
theorem least_ex {P : Nat → Prop} {n : Nat} (h : P n) : ∃ n, P n ∧ ∀ m, m < n → ¬ P m := by
  induction n using Nat.strongRecOn with
  | _ n ih =>
    by_cases hm : ∃ m, m < n ∧ P m
    · obtain ⟨m, h1, h2⟩ := hm
      exact ih m h1 h2
    · exact ⟨n, h, fun m h1 h2 => hm ⟨m, h1, h2⟩⟩
theorem leastN_spec {P : Nat → Prop} {n : Nat} (h : P n) : P (leastN P) := by
  have hex := least_ex h
  unfold leastN
  rw [dif_pos hex]
  exact (Classical.choose_spec hex).1
theorem leastN_le {P : Nat → Prop} {n : Nat} (h : P n) : leastN P ≤ n := by
  have hex := least_ex h
  unfold leastN
  rw [dif_pos hex]
  rcases Nat.lt_or_ge n (Classical.choose hex) with h1 | h1
  · exact absurd h ((Classical.choose_spec hex).2 n h1)
  · exact h1
theorem ta83_nil (w : World) : (Instr.typeAssert .nilIface 20 83 true).run Try.prog w = .ok (.tuple #[.agg #[], .bool false]) w := by kernel_rfl
theorem ta83_full (w : World) : (Instr.typeAssert (.iface 83 (.agg #[])) 20 83 true).run Try.prog w = .ok (.tuple #[.agg #[], .bool true]) w := by kernel_rfl
theorem alloc83 (w : World) : (Instr.alloc 83 true (.tuple #[])).run Try.prog w = .ok (.pointer (some ⟨w.heap.size, 0, none⟩)) (w.alloc (.cells #[] 83)) := by kernel_rfl
theorem neq_nil (w : World) : (binOp .neq 20 .nilIface .nilIface).run Try.prog w = .ok (.bool false) w := by kernel_rfl
set_option maxRecDepth 100000 in
theorem catch55_idle (w : World) :
    CallsD Try.prog 55 #[] .returning w fun e u' w' => e = .returned (.tuple #[]) ∧ u' = .returning ∧ Below w.heap.size w w' := by
  refine callsD_of_wpS Try.func55 rfl fun c₀ cs hu => ?_
  apply wpS_seq
  apply wpS_region
  simp [wpOpsS, go_sem, recoverD, hu, Try.ntmps55, Exit.thenS]
  refine wpS_of_wp ?_
  show Code.wp Try.prog _ _ ⟨#[.nilIface, undef, undef, .nilIface, undef, undef, undef, undef, undef, undef, undef, undef, undef, undef], []⟩ w
  have h1 := ta83_nil
  have h2 := alloc83
  have h3 := neq_nil
  go_wp2_with fail
  have hB : Below w.heap.size w w := Below.refl _ _
  cases c₀
  simp_all [bodyPostS, results, Try.results55]
set_option maxRecDepth 100000 in
theorem catch55_full (w : World) :
    CallsD Try.prog 55 #[] (.panicking failP) w fun e u' w' => e = .returned (.tuple #[]) ∧ u' = .panicking [{ v := .iface 83 (.agg #[]), recovered := true }] ∧ Below w.heap.size w w' := by
  have hB : Below w.heap.size w (w.alloc (.cells #[] 83)) := (Below.refl _ _).alloc (Nat.le_refl _) _
  refine callsD_of_wpS Try.func55 rfl fun c₀ cs hu => ?_
  apply wpS_seq
  apply wpS_region
  simp [wpOpsS, go_sem, recoverD, hu, Try.ntmps55, Exit.thenS, failP]
  refine wpS_of_wp ?_
  show Code.wp Try.prog _ _ ⟨#[.iface 83 (.agg #[]), undef, undef, .iface 83 (.agg #[]), undef, undef, undef, undef, undef, undef, undef, undef, undef, undef], []⟩ w
  have h1 := ta83_full
  have h2 := alloc83
  have h3 := neq_nil
  go_wp2_with fail
  cases c₀
  simp_all [bodyPostS, results, Try.results55]
/-- the steps that are left: at most m -/
def Left (r n : Nat) (o : Option S) (p : Option Ph) (s : S) (m : Nat) : Prop := match p with
  | none => o = some s
  | some p => PI r n p s ∧ run r n m p s = some o
/-- the loop's head -/
def Head (b base r n : Nat) (w : World) (o : Option S) (m : Nat) (z : Value) (wr : World) : Prop := ∃ p s, z = stepV b p ∧ Wk 66 b base wr s (.int .i64 (s.t : Int)) ∧ Ch base w wr ∧ Left r n o p s m
/-- a step's post, by what the step does -/
def NextPost (b base r n : Nat) (p : Ph) (s : S) (w : World) (e : Ending) (w' : World) : Prop := match next r n p s with
  | none => StepNo base w e w'
  | some (p', s') => StepYes b base p' s' w e w'
def stepF : Ph → Nat
  | .choose => 56
  | .down => 73
  | .across => 92
  | .spread => 103
  | .sign => 107
theorem stepV_some (b : Nat) (p : Ph) : stepV b (some p) = .func (.func (stepF p)) #[.pointer (some ⟨b, 0, none⟩)] #[] := by cases p <;> rfl
theorem step_any (base b r n : Nat) (w : World) (s : S) (p : Ph) (hr : r ≤ 100000) (hn : n ≤ 100000) (hS : Wk 66 b base w s (.int .i64 (s.t : Int))) (hbw : base ≤ w.heap.size) (hp : PI r n p s) :
    Calls Try.prog (stepF p) #[.pointer (some ⟨b, 0, none⟩)] w (NextPost b base r n p s w) := by
  unfold NextPost
  cases p with
  | choose =>
    rw [next_choose]
    by_cases h : s.t = r ∨ s.t = n
    · rw [if_pos h]
      exact choose56_end base b r n w s hr hn hS hp.sh h
    · rw [if_neg h]
      refine (choose56_any base b r n w s hr hn hS hbw hp (fun e => h (.inl e)) (fun e => h (.inr e))).mono fun e w' hpost => ?_
      rcases hpost with ⟨h1, h2⟩ | ⟨x, y, h1, h2⟩
      · rw [h1]; exact h2
      · rw [h1]; exact h2
  | down =>
    rw [next_down]
    cases hf : (s.down r).fine with
    | true => exact down73_yes base b r n w s hr hn hS hbw hp hf
    | false => exact down73_no base b r n w s hr hn hS hbw hp hf
  | across =>
    rw [next_across]
    cases hf : (s.across n).fine with
    | true => exact across92_yes base b r n w s hr hn hS hbw hp hf
    | false => exact across92_no base b r n w s hr hn hS hbw hp hf
  | spread =>
    rw [next_spread]
    refine (spread103_any base b r n w s hr hn hS hbw hp.toPiv).mono fun e w' hpost => ?_
    rcases hpost with ⟨h1, h2⟩ | ⟨i, h1, h2⟩
    · rw [h1]; exact h2
    · rw [h1]
      rcases h2 with ⟨h3, h4⟩ | ⟨h3, h4⟩
      · simp only [h3, if_true]; exact h4
      · simp only [h3]; exact h4
  | sign =>
    rw [next_sign]
    exact sign107_any base b r n w s hr hn hS hbw hp.toPiv
theorem eg_step (p : Ph) : ∀ args w, (callFunc (stepF p) args).run Try.prog w = .ok (.enter (stepF p) args) w := by
  cases p
  · exact enters_of Try.func56 (by kernel_rfl) rfl
  · exact enters_of Try.func73 (by kernel_rfl) rfl
  · exact enters_of Try.func92 (by kernel_rfl) rfl
  · exact enters_of Try.func103 (by kernel_rfl) rfl
  · exact enters_of Try.func107 (by kernel_rfl) rfl
theorem neq_step (f : Nat) (a : Addr) (w : World) : (binOp .neq 86 (.func (.func f) #[.pointer (some a)] #[]) .nilFunc).run Try.prog w = .ok (.bool true) w := by kernel_rfl
theorem neq_step0 (w : World) : (binOp .neq 86 .nilFunc .nilFunc).run Try.prog w = .ok (.bool false) w := by kernel_rfl
def RunPost (b base : Nat) (o : Option S) (w : World) (e : Ending) (w' : World) : Prop := Ch base w w' ∧ match o with
  | none => e = .returned (.bool false)
  | some s => e = .returned (.bool true) ∧ Wk 66 b base w' s (.int .i64 (s.t : Int))
theorem res35 {w : World} {x : Bool} (tmps : Array Value) (h2 : tmps[2]? = some (.bool x)) : (results Try.f35 tmps).run Try.prog w = .ok (.bool x) w := by
  simp [results, Try.results35, go_sem, h2]
theorem leave35 {w : World} {x : Bool} (tmps : Array Value) (h2 : tmps[2]? = some (.bool x)) {R : Ending → World → Prop} (hR : R (.returned (.bool x)) w) : Leaves Try.prog Try.f35 tmps R [] .returning w := ⟨_, res35 tmps h2, hR⟩
theorem left_no {r n m : Nat} {o : Option S} {p : Ph} {s : S} (h : run r n m p s = some o) (hn : next r n p s = none) : o = none := by
  cases m with
  | zero => cases h
  | succ m =>
    unfold run at h
    rw [hn] at h
    exact (Option.some.inj h).symm
theorem left_yes {r n m : Nat} {o : Option S} {p : Ph} {p' : Option Ph} {s s' : S} (hp : PI r n p s) (h : run r n m p s = some o) (hn : next r n p s = some (p', s')) : ∃ m', m' < m ∧ Left r n o p' s' m' := by
  cases m with
  | zero => cases h
  | succ m =>
    unfold run at h
    rw [hn] at h
    cases p' with
    | none => exact ⟨0, by omega, (Option.some.inj h).symm⟩
    | some p' => exact ⟨m, by omega, next_pi hp hn, h⟩
theorem first_yes (r n : Nat) (s : S) : ∃ p' s', next r n .choose s = some (p', s') := by
  rw [next_choose]
  split
  · exact ⟨_, _, rfl⟩
  · split
    · exact ⟨_, _, rfl⟩
    · exact ⟨_, _, rfl⟩
set_option maxRecDepth 100000 in
set_option maxHeartbeats 1000000 in
theorem run35_any (base b r n : Nat) (w : World) (s : S) (o : Option S) (k : Nat) (hr : r ≤ 100000) (hn : n ≤ 100000) (hS : Wk 66 b base w s (.int .i64 (s.t : Int))) (hbw : base ≤ w.heap.size) (hp : Base r n s) (ho : run r n k .choose s = some o) :
    Calls Try.prog 35 #[.pointer (some ⟨b, 0, none⟩)] w (RunPost b base o w) := by
  have HSTEP : Hid (∀ p s W, Wk 66 b base W s (.int .i64 (s.t : Int)) → base ≤ W.heap.size → PI r n p s → Calls Try.prog (stepF p) #[.pointer (some ⟨b, 0, none⟩)] W (NextPost b base r n p s W)) := Lib.hid fun p s W h1 h2 h3 => step_any base b r n W s p hr hn h1 h2 h3
  obtain ⟨p1, s1, hn1⟩ := first_yes r n s
  have HF : Hid (Calls Try.prog 56 #[.pointer (some ⟨b, 0, none⟩)] w (StepYes b base p1 s1 w)) := Lib.hid (by
    have h := HSTEP.out .choose s w hS hbw hp
    unfold NextPost at h
    rw [hn1] at h
    exact h)
  obtain ⟨m1, -, hl1⟩ := left_yes (p := .choose) hp ho hn1
  have HL1 := Lib.hid hl1
  have HBW := Lib.hid hbw
  have hneq := neq_step
  have hneq0 := neq_step0
  clear hS hp ho hn1 hl1 hbw
  go_enter_defers Try.func35, Try.ntmps35
  go_wp2_with (go_at_call 56; (refine HF.out.mono ?_); rintro e w1 ⟨rfl, h1, h2⟩; have H1 := Lib.hid h1; have H2 := Lib.hid h2; clear h1 h2)
  go_loopw [3] (fun z wr => ∃ m, Head b base r n w o m z wr) (fun z wr => leastN fun m => Head b base r n w o m z wr)
  case atStart => exact ⟨m1, p1, s1, rfl, H1.out, H2.out, HL1.out⟩
  case round =>
    obtain ⟨m, hm⟩ := hrel
    have hl := leastN_spec (P := fun m => Head b base r n w o m _ wr) hm
    obtain ⟨p, σ, rfl, hW, hCh, hL⟩ := hl
    clear hm
    have HW := Lib.hid hW
    have HCH := Lib.hid hCh
    clear hW hCh
    rcases p with _ | p
    · have HO : Hid (o = some σ) := Lib.hid hL
      clear hL
      have hst0 : stepV b none = .nilFunc := rfl
      rw [hst0]
      clear hst0
      go_wp2_with fail
      refine leaves_cons (f := 55) (args := #[]) (by simp) (by simp [go_sem]) ?_
      refine (catch55_idle _).mono ?_
      rintro e u' w4 ⟨rfl, rfl, hb4⟩
      exact leave35 _ rfl ⟨HCH.out.trans (Ch.of_below (Nat.le_trans HBW.out HCH.out.size) hb4), by rw [HO.out]; exact ⟨rfl, HW.out.below hb4⟩⟩
    · have hPI := hL.1
      have hRUN := hL.2
      have hst := stepV_some b p
      have hcall := HSTEP.out p σ wr HW.out (Nat.le_trans HBW.out HCH.out.size) hPI
      unfold NextPost at hcall
      cases hnx : next r n p σ with
      | none =>
        rw [hnx] at hcall
        have HC := Lib.hid hcall
        have HO := Lib.hid (left_no hRUN hnx)
        clear hL hPI hRUN hcall hnx
        rw [hst]
        clear hst
        have heg := eg_step p
        generalize stepF p = fp at *
        go_wp2_with (go_at_fn fp; (refine HC.out.mono ?_); rintro e w2 ⟨rfl, h2⟩; have H2 := Lib.hid h2; clear h2)
        refine leaves_cons (f := 55) (args := #[]) (by simp) (by simp [go_sem]) ?_
        refine (catch55_full _).mono ?_
        rintro e u' w4 ⟨rfl, rfl, hb4⟩
        exact leave35 _ rfl ⟨(HCH.out.trans H2.out).trans (Ch.of_below (Nat.le_trans HBW.out (HCH.out.trans H2.out).size) hb4), by rw [HO.out]⟩
      | some x =>
        obtain ⟨p', s'⟩ := x
        rw [hnx] at hcall
        have HC := Lib.hid hcall
        obtain ⟨m', hm', hl'⟩ := left_yes hPI hRUN hnx
        have HL' := Lib.hid hl'
        have HM' := Lib.hid hm'
        clear hL hPI hRUN hcall hnx hl' hm'
        rw [hst] at *
        clear hst
        have heg := eg_step p
        generalize stepF p = fp at *
        go_wp2_with (go_at_fn fp; (refine HC.out.mono ?_); rintro e w2 ⟨rfl, h1, h2⟩; have H1 := Lib.hid h1; have H2 := Lib.hid (HCH.out.trans h2); clear h1 h2)
        go_roundw
        case rel => exact ⟨m', p', s', rfl, H1.out, H2.out, HL'.out⟩
        case measure => exact Nat.lt_of_le_of_lt (leastN_le (P := fun m => Head b base r n w o m _ _) ⟨p', s', rfl, H1.out, H2.out, HL'.out⟩) HM'.out
end Go.Proofs
namespace Go.Proofs
open Go.RowKit Go.Shelf Go.Proofs.Sm
theorem src_ints {t : TypeId} (ht : Try.prog.underlying t = some (.slice 3)) {w : World} {v : Value} {y : List Int} (h : IntsAt w v y) : Src Try.prog 1 t v y.length (ints y) w := by
  obtain ⟨⟨A, n, cap, rfl, hn, hc, hm, hr⟩, -⟩ := h
  have hl : n = y.length := by simpa [ints] using hn
  subst hl
  rcases Nat.eq_zero_or_pos y.length with h0 | h0
  · obtain rfl : y = [] := List.length_eq_zero_iff.1 h0
    cases A with
    | none => exact Src.ofNil w ht cap
    | some a => exact Src.ofSlice w ht a 0 cap [] rfl (fun j u hu => by simp at hu) (fun u hu => by cases hu)
  · obtain ⟨b, off, rfl, hrow⟩ := hr h0
    exact Src.ofSlice w ht _ _ cap (ints y) (by simp [ints]) (fun j u hu => by rw [Addr.add_lit]; exact hrow j u hu) (fun u hu => by obtain ⟨x, -, rfl⟩ := List.mem_map.1 hu; rfl)
/-- append([]int{}, y...): the copy lies in a block of its own -/
theorem run_copy {t : TypeId} (ht : Try.prog.underlying t = some (.slice 3)) {w : World} {v : Value} {y : List Int} (h : IntsAt w v y) (hl : y.length ≤ 1000000) :
    ∃ A cap w', (Builtin.append_ #[t, t] t #[.slice (some ⟨w.heap.size, 0, none⟩) 0 0, v]).run Try.prog (w.alloc (.cells #[] 3)) = .ok (.slice A y.length cap) w' ∧
      Below w.heap.size w w' ∧ OwnI w.heap.size w' (.slice A y.length cap) y := by
  obtain ⟨i, hi, hz, hs, hby⟩ := info3p
  have hal : Below w.heap.size w (w.alloc (.cells #[] 3)) := (Below.refl _ _).alloc (Nat.le_refl _) _
  have hnew := heap_alloc_new w (.cells #[] 3)
  have hsz : (w.alloc (.cells #[] 3)).heap.size = w.heap.size + 1 := by simp
  have hsrc := src_ints ht (h.below hal)
  generalize w.alloc (.cells #[] 3) = W at *
  rcases Nat.eq_zero_or_pos y.length with h0 | h0
  · obtain rfl : y = [] := List.length_eq_zero_iff.1 h0
    have := run_append_room_src (P := Try.prog) W t t t 3 i ht hi w.heap.size 0 0 0 v 0 [] (by rw [hs]; exact hsrc) (Nat.le_refl _) (fun j hj => absurd hj (by simp)) (fun j hj => absurd hj (by simp))
    exact ⟨_, 0, W, this, hal, rfl, .inr ⟨w.heap.size, 0, #[], rfl, Nat.le_refl _, hnew, Nat.le_refl _, by simp, rfl, rfl⟩⟩
  · have hold : (Builtin.firstCells i.size 0 (.slice (some ⟨w.heap.size, 0, none⟩) 0 0)).run Try.prog W.drew = .ok ([] : List Value).toArray W.drew := by
      rw [hs]
      exact run_firstCells_some W.drew 1 0 ⟨w.heap.size, 0, none⟩ 0 0 [] rfl (fun j u hu => by simp at hu)
    have hg := run_append_grow_src (P := Try.prog) W t t t 3 i (.int .i64 0) ht hi hz (some ⟨w.heap.size, 0, none⟩) 0 0 [] hold v y.length (ints y) (by rw [hs]; exact hsrc) (by omega) (by omega) (growslice_fits (by omega) (by rw [hby]; omega))
    simp only [Nat.zero_add, List.nil_append] at hg
    have hcm := grownCap_le_maxLen W y.length 0 3 (by unfold maxLen; omega)
    have hcg := grownCap_ge W y.length 0 3
    refine ⟨_, _, _, hg, hal.trans ⟨rfl, rfl, rfl, by simp, fun k hk => (Below.heap_alloc W.drew _ k (by show k < W.heap.size; omega))⟩, by simp [ints], .inr ⟨W.heap.size, _, _, rfl, by omega, heap_alloc_new W.drew _, hcg, hcm, ?_, ?_⟩⟩
    · simp [ints, size_zeroCells, Value.cells]
      omega
    · simp [ints]
theorem eqnil_none (w : World) (n c : Nat) : (binOp .eql 25 (.slice none n c) (.slice none 0 0)).run Try.prog w = .ok (.bool true) w := by kernel_rfl
theorem eqnil_some (w : World) (a : Addr) (n c : Nat) : (binOp .eql 25 (.slice (some a) n c) (.slice none 0 0)).run Try.prog w = .ok (.bool false) w := by kernel_rfl
set_option maxRecDepth 100000 in
theorem clone34_any (w : World) (v : Value) (xs : List Int) (h : IntsAt w v xs) (hl : xs.length ≤ 1000000) :
    Calls Try.prog 34 #[v] w fun e w' => ∃ A c, e = .returned (.slice A xs.length c) ∧ OwnI w.heap.size w' (.slice A xs.length c) xs ∧ Below w.heap.size w w' := by
  obtain ⟨A0, c0, w', hr, hb, ho⟩ := run_copy Try.underlying25 h hl
  have HR := Lib.hid hr
  have HB := Lib.hid hb
  have HO := Lib.hid ho
  obtain ⟨A, cap, rfl, hcap, hmax, hc⟩ := h.open_
  cases A with
  | none =>
    have h0 : xs = [] := by
      rcases Nat.eq_zero_or_pos xs.length with h0 | h0
      · exact List.length_eq_zero_iff.1 h0
      · obtain ⟨b, off, hx, -⟩ := hc h0
        cases hx
    clear hr hb ho hc h HR HB HO
    subst h0
    have hq := eqnil_none w
    go_enter Try.func34, Try.ntmps34
    go_wp2_with fail
    go_ret
    exact ⟨none, 0, rfl, World.ownsRow_nil _ _ _ _, Below.refl _ _⟩
  | some a =>
    clear hr hb ho hc h
    have hq := eqnil_some w
    go_enter Try.func34, Try.ntmps34
    go_wp2_with ((with_reducible refine wpList_sel 7 ?_); refine wpList_val rfl (r_app (.tmp 5) (.tmp 6) 25 rfl rfl rfl HR.out) ?_)
    go_ret
    exact ⟨_, _, rfl, HO.out, HB.out⟩
/-- the error of the rows of a relation matrix -/
def rowsE (n : Int) : List (List Int) → Int
  | [] => 0
  | x :: l => if (x.length : Int) ≠ n then 3 else if (x.any fun z => !entryB z) = true then 2 else rowsE n l
/-- the error of a relation matrix -/
def checkE (n : Int) (l : List (List Int)) : Int := if n < 1 ∨ 16 < n then 2 else if 100 < l.length then 4 else rowsE n l
theorem rowsE_skip (n : Int) (l : List (List Int)) {k : Nat} (h : ∀ j, j < k → ((l.getD j []).length : Int) = n ∧ ((l.getD j []).any fun z => !entryB z) = false) (hk : k ≤ l.length) : rowsE n l = rowsE n (l.drop k) := by
  induction k with
  | zero => rfl
  | succ k ih =>
    rw [ih (fun j hj => h j (by omega)) (by omega)]
    obtain ⟨h1, h2⟩ := h k (by omega)
    have e : l.drop k = l.getD k [] :: l.drop (k + 1) := by
      rw [List.drop_eq_getElem_cons (by omega : k < l.length), List.getD_eq_getElem?_getD, List.getElem?_eq_getElem (by omega)]; rfl
    rw [e]
    unfold rowsE
    rw [if_neg (fun h => h h1), h2]
    simp only [Bool.false_eq_true, if_false]
    cases l.drop (k + 1) <;> rfl
theorem rowsE_at (n : Int) (l : List (List Int)) {k : Nat} (hk : k < l.length) : rowsE n (l.drop k) = if ((l.getD k []).length : Int) ≠ n then 3 else if ((l.getD k []).any fun z => !entryB z) = true then 2 else rowsE n (l.drop (k + 1)) := by
  have e : l.drop k = l.getD k [] :: l.drop (k + 1) := by
    rw [List.drop_eq_getElem_cons hk, List.getD_eq_getElem?_getD, List.getElem?_eq_getElem hk]; rfl
  rw [e]; rfl
theorem rowsE_end (n : Int) (l : List (List Int)) : rowsE n (l.drop l.length) = 0 := by rw [List.drop_length]; rfl
theorem in64_of {x : List Int} (h : Fits x) : ∀ z ∈ x, In64 z := fun z hz => h z hz
set_option maxRecDepth 100000 in
set_option maxHeartbeats 1000000 in
theorem check15_any (w : World) (n : Int) (v : Value) (l : List (List Int)) (h : Tab w v l) :
    Calls Try.prog 15 #[.int .i64 n, v] w fun e w' => e = .returned (.int .i64 (checkE n l)) ∧ ∃ q, w' = w.drewN q := by
  obtain ⟨A0, c0, rfl, hc1, hc2, hc⟩ := h.open_
  by_cases h1 : n < 1
  · have HE : Hid (checkE n l = 2) := Lib.hid (by unfold checkE; rw [if_pos (.inl h1)])
    have hd1 : decide (n < 1) = true := decide_eq_true h1
    clear hc h
    generalize checkE n l = z at *
    go_enter Try.func15, Try.ntmps15
    go_wp2_with fail
    go_ret
    exact ⟨ret_int HE.out.symm, 0, rfl⟩
  · have hd1 : decide (n < 1) = false := decide_eq_false h1
    by_cases h2 : 16 < n
    · have HE : Hid (checkE n l = 2) := Lib.hid (by unfold checkE; rw [if_pos (.inr h2)])
      have hd2 : decide (16 < n) = true := decide_eq_true h2
      clear hc h
      generalize checkE n l = z at *
      go_enter Try.func15, Try.ntmps15
      go_wp2_with fail
      go_ret
      exact ⟨ret_int HE.out.symm, 0, rfl⟩
    · have hd2 : decide (16 < n) = false := decide_eq_false h2
      by_cases h3 : 100 < l.length
      · have HE : Hid (checkE n l = 4) := Lib.hid (by unfold checkE; rw [if_neg (by omega), if_pos h3])
        have hd3 : decide ((100 : Int) < (l.length : Int)) = true := decide_eq_true (by omega)
        clear hc h
        generalize checkE n l = z at *
        go_enter Try.func15, Try.ntmps15
        go_wp2_with fail
        go_ret
        exact ⟨ret_int HE.out.symm, 0, rfl⟩
      · have HE : Hid (checkE n l = rowsE n l) := Lib.hid (by unfold checkE; rw [if_neg (by omega), if_neg h3])
        have hd3 : decide ((100 : Int) < (l.length : Int)) = false := decide_eq_false (by omega)
        have HC := Lib.hid hc
        clear hc h
        generalize checkE n l = z at *
        go_enter Try.func15, Try.ntmps15
        go_wp2_with fail
        go_loopw [18] (fun i wr => ∃ k : Nat, k ≤ l.length ∧ i = .int .i64 k ∧ Hid (∀ j, j < k → ((l.getD j []).length : Int) = n ∧ ((l.getD j []).any fun z => !entryB z) = false) ∧ ∃ q, wr = w.drewN q) (fun i _ => l.length - (intOf i).toNat)
        case atStart => exact ⟨0, Nat.zero_le _, rfl, Lib.hid (fun j hj => absurd hj (by omega)), 0, rfl⟩
        case round =>
          obtain ⟨k, hk, rfl, HZ, q, rfl⟩ := hrel
          have hk0 : (0 : Int) ≤ (k : Int) := Int.natCast_nonneg _
          by_cases hlt : k < l.length
          · have hlt' : (k : Int) < (l.length : Int) := by omega
            obtain ⟨b, o, rfl, hcc⟩ := HC.out (by omega)
            obtain ⟨u, hu, hI⟩ := hcc k hlt
            obtain ⟨A5, c5, rfl, e1, e2, e3⟩ := hI.open_
            have HSK := Lib.hid (rowsE_skip n l HZ.out (by omega))
            have HAT := Lib.hid (rowsE_at n l hlt)
            have hcall := has41_any 42 #[] In64 (fun x => !entryB x) (w.drewN q) eg42 (pred42 _) _ _ (hI.drewN q) (in64_of hI.2)
            have HZ1 := Lib.hid (fun h => all_succ (p := fun j => ((l.getD j []).length : Int) = n ∧ ((l.getD j []).any fun z => !entryB z) = false) HZ.out (k := k) h)
            clear hcc hI e3
            generalize (l.getD k []).any (fun z => !entryB z) = bb at *
            generalize (l.getD k []).length = m at *
            by_cases hm : (m : Int) = n
            · have hd4 : ((m : Int) != n) = false := by simpa using hm
              cases bb with
              | true =>
                have HR : Hid (rowsE n l = 2) := Lib.hid (by rw [HSK.out, HAT.out, if_neg (fun h => h hm), if_pos rfl])
                have HCALL := Lib.hid hcall
                clear hcall HZ1 hm
                go_wp2_with (go_at_call 41; (refine HCALL.out.mono ?_); rintro e w' ⟨rfl, q', rfl⟩)
                go_ret
                exact ⟨ret_int (by rw [HE.out, HR.out]), by first | exact ⟨_, rfl⟩ | exact ex_drewN⟩
              | false =>
                have HZ2 := Lib.hid (HZ1.out ⟨hm, rfl⟩)
                have HCALL := Lib.hid hcall
                clear hcall HZ1 hm
                go_wp2_with (go_at_call 41; (refine HCALL.out.mono ?_); rintro e w' ⟨rfl, q', rfl⟩)
                go_roundw
                case rel => exact ⟨k + 1, by omega, by go_num, HZ2, by first | exact ⟨_, rfl⟩ | exact ex_drewN⟩
                case measure => simp [intOf]; omega
            · have hd4 : ((m : Int) != n) = true := by simpa using hm
              have HR : Hid (rowsE n l = 3) := Lib.hid (by rw [HSK.out, HAT.out, if_pos hm])
              clear hcall HZ1 hm
              go_wp2_with fail
              go_ret
              exact ⟨ret_int (by rw [HE.out, HR.out]), by first | exact ⟨_, rfl⟩ | exact ex_drewN⟩
          · obtain rfl : k = l.length := by omega
            have HR : Hid (rowsE n l = 0) := Lib.hid (by rw [rowsE_skip n l HZ.out (Nat.le_refl _), rowsE_end])
            go_wp2_with fail
            go_ret
            exact ⟨ret_int (by rw [HE.out, HR.out]), by first | exact ⟨_, rfl⟩ | exact ex_drewN⟩
end Go.Proofs
namespace Go.Proofs
open Go.RowKit Go.Shelf Go.Proofs.Sm
theorem getD_replicate {α : Type} (n k : Nat) (x : α) (h : k < n) : (List.replicate n x).getD k x = x := by simp [List.getD_eq_getElem?_getD, h]
theorem r_make {o : Oper} {a : Act} {w w' : World} {v : Value} (T : TypeId) (x y : Operand) {n m : Value} (ho : o.op = .makeSlice T x y) (hx : a.eval x = n) (hy : a.eval y = m) (hr : (Instr.makeSlice T n m).run Try.prog w = .ok v w') : (execOp a.eval o).run Try.prog w = .ok (.value v) w' := by
  unfold execOp
  simp only [ho, hx, hy, Sem.run_bind, Sem.run_pure, hr, Result.andThen_ok]
/-- one matrix in memory, all of it from base on -/
structure MatM (base : Nat) (w : World) (v : Value) (bl cs : Nat → Nat) (m : Mat) : Prop where
  out : w.ownsRow base 25 1 v m.length ((List.range m.length).map fun i => .slice (some ⟨bl i, 0, none⟩) (m.getD i []).length (cs i))
  row : ∀ i, i < m.length → base ≤ bl i ∧ XsAt w (bl i) (m.getD i []) ∧ (m.getD i []).length ≤ cs i ∧ cs i ≤ 9223372036854775807
  inj : ∀ i j, i < m.length → j < m.length → bl i = bl j → i = j
theorem MatM.keep {base : Nat} {w w' : World} {v : Value} {bl cs : Nat → Nat} {m : Mat} (h : MatM base w v bl cs m) (hb : Below w.heap.size w w') : MatM base w' v bl cs m :=
  ⟨owns_below h.out hb, fun i hi => let ⟨a, b, c⟩ := h.row i hi; ⟨a, b.below hb, c⟩, h.inj⟩
theorem MatM.lt {base : Nat} {w : World} {v : Value} {bl cs : Nat → Nat} {m : Mat} (h : MatM base w v bl cs m) : (∀ i, i < m.length → bl i < w.heap.size) ∧ ∀ g, v.ownBlock = some g → base ≤ g ∧ g < w.heap.size :=
  ⟨fun i hi => (h.row i hi).2.1.lt, fun g hg => ⟨(owns_block h.out g hg).1, owns_lt h.out hg⟩⟩
/-- row j of an identity of n rows -/
def idRow (n j : Nat) : List Int := (List.range n).map fun q => if j = q then 1 else 0
theorem idRow_length (n j : Nat) : (idRow n j).length = n := by simp [idRow]
theorem idM_row {n j : Nat} (h : j < n) : (idM n).getD j [] = idRow n j := by simp [idM, idRow, List.getD_eq_getElem?_getD, h]
theorem idRow_set {n j : Nat} (_h : j < n) : (List.replicate n (0 : Int)).set j 1 = idRow n j := by
  apply List.ext_getElem (by simp [idRow])
  intro q h1 h2
  rw [List.getElem_set]
  simp [idRow]
theorem made_one (v : Value) (hv : v.cells = #[v]) (n : Nat) : madeCells v.cells n = Array.replicate n v := by
  apply Array.ext_getElem?
  intro k
  simp only [madeCells, hv, Array.getElem?_map, Array.getElem?_range, Array.getElem?_replicate]
  by_cases h : k < n
  · simp [h, Nat.mod_one]
  · simp [h]
theorem make25_any (w : World) (n : Nat) (hn : n ≤ 1000000) : ∃ w', (Instr.makeSlice 25 (.int .i64 (n : Int)) (.int .i64 (n : Int))).run Try.prog w = .ok (.slice (some ⟨w.heap.size, 0, none⟩) n n) w' ∧ XsAt w' w.heap.size (List.replicate n 0) ∧ Below w.heap.size w w' ∧ w'.heap.size = w.heap.size + 1 := by
  obtain ⟨i, hi, hz, hs, hb⟩ := info3p
  have h := run_makeSlice (P := Try.prog) w 25 3 i (.int .i64 0) Try.underlying25 hi hz .i64 .i64 n n (by omega) (Int.le_refl _) (by rw [hs]; simp; omega) (by rw [hb]; omega) (by omega)
  simp only [Int.toNat_natCast, hs, Nat.mul_one] at h
  rw [made_one _ rfl] at h
  refine ⟨_, h, ⟨_, heap_alloc_new w _, ?_, fun k hk => ?_⟩, (Below.refl _ _).alloc (Nat.le_refl _) _, by simp⟩
  · simp
  · rw [List.length_replicate] at hk
    rw [getD_replicate _ _ _ hk]
    simp [hk]
theorem make22_any (w : World) (n : Nat) (hn : n ≤ 1000000) : ∃ w' C, (Instr.makeSlice 22 (.int .i64 (n : Int)) (.int .i64 (n : Int))).run Try.prog w = .ok (.slice (some ⟨w.heap.size, 0, none⟩) n n) w' ∧ w'.heap[w.heap.size]? = some (.cells C 25 (0, 0)) ∧ C.size = n ∧ Below w.heap.size w w' ∧ w'.heap.size = w.heap.size + 1 := by
  obtain ⟨i, hi, hz, hs, hb⟩ := info24p
  have h := run_makeSlice (P := Try.prog) w 22 25 i (.slice none 0 0) Try.underlying22 hi hz .i64 .i64 n n (by omega) (Int.le_refl _) (by rw [hs]; simp; omega) (by rw [hb]; omega) (by omega)
  simp only [Int.toNat_natCast, hs, Nat.mul_one] at h
  rw [made_one _ rfl] at h
  exact ⟨_, _, h, heap_alloc_new w _, by simp, (Below.refl _ _).alloc (Nat.le_refl _) _, by simp⟩
/-- an identity under way: i rows are made -/
structure IdTo (B n i : Nat) (w wr : World) : Prop where
  size : wr.heap.size = B + 1 + i
  out : ∃ C : Array Value, wr.heap[B]? = some (.cells C 25 (0, 0)) ∧ C.size = n ∧ ∀ j, j < i → C[j]? = some (.slice (some ⟨B + 1 + j, 0, none⟩) n n)
  row : ∀ j, j < i → XsAt wr (B + 1 + j) (idRow n j)
  below : Below B w wr
theorem IdTo.cell {B n i : Nat} {w wr : World} (h : IdTo B n i w wr) {k : Nat} (hk : k < n) : (∃ u, wr.cell? ⟨B, k, none⟩ = some u) ∧ wr.frozen? ⟨B, k, none⟩ = false := by
  obtain ⟨C, hC, hs, -⟩ := h.out
  exact ⟨⟨C[k]'(by omega), by rw [cell_of_row _ _ _ _ _ _ hC]; exact Array.getElem?_eq_getElem (by omega)⟩, by simp [World.frozen?, hC]⟩
/-- a round: the row is made, stored, and its 1 is written -/
theorem IdTo.step {B n i : Nat} {w wr w1 : World} (h : IdTo B n i w wr) (hi : i < n) (hx : XsAt w1 wr.heap.size (List.replicate n 0)) (hb : Below wr.heap.size wr w1) (hz : w1.heap.size = wr.heap.size + 1) :
    IdTo B n (i + 1) w ((w1.setCell ⟨B, i, none⟩ (.slice (some ⟨B + 1 + i, 0, none⟩) n n)).setCell ⟨B + 1 + i, i, none⟩ (.int .i64 1)) := by
  obtain ⟨hsz, ⟨C, hC, hCs, hCj⟩, hrow, hbel⟩ := h
  rw [hsz] at hx hb hz
  have hBlt : B < B + 1 + i := by omega
  have hC1 : w1.heap[B]? = some (.cells C 25 (0, 0)) := (hb.block B hBlt).trans hC
  have hC2 := box_set hC1 i (.slice (some ⟨B + 1 + i, 0, none⟩) n n)
  have hne1 : ∀ p, p ≠ B → (w1.setCell ⟨B, i, none⟩ (.slice (some ⟨B + 1 + i, 0, none⟩) n n)).heap[p]? = w1.heap[p]? := fun p hp => Below.heap_setCell w1 ⟨B, i, none⟩ _ p hp
  have hne2 : ∀ p, p ≠ B + 1 + i → ((w1.setCell ⟨B, i, none⟩ (.slice (some ⟨B + 1 + i, 0, none⟩) n n)).setCell ⟨B + 1 + i, i, none⟩ (.int .i64 1)).heap[p]? = (w1.setCell ⟨B, i, none⟩ (.slice (some ⟨B + 1 + i, 0, none⟩) n n)).heap[p]? := fun p hp => Below.heap_setCell _ ⟨B + 1 + i, i, none⟩ _ p hp
  refine ⟨by simp [World.setCell, hz]; omega, ⟨_, (hne2 B (by omega)).trans hC2, by simpa using hCs, fun j hj => ?_⟩, fun j hj => ?_, ?_⟩
  · by_cases e : i = j
    · subst e; simp [hCs, hi]
    · rw [Array.getElem?_setIfInBounds_ne e]; exact hCj j (by omega)
  · by_cases e : j = i
    · subst e
      have h1 : XsAt (w1.setCell ⟨B, j, none⟩ (.slice (some ⟨B + 1 + j, 0, none⟩) n n)) (B + 1 + j) (List.replicate n 0) := hx.keep (hne1 _ (by omega))
      have h2 := h1.set (k := j) (by simp; omega) 1
      rw [idRow_set hi] at h2
      exact h2
    · exact ((hrow j (by omega)).keep (hb.block _ (by omega))).keep ((hne2 _ (by omega)).trans (hne1 _ (by omega)))
  · exact ((hbel.trans (hb.mono (by omega))).setCell (p := ⟨B, i, none⟩) (Nat.le_refl B) _).setCell (p := ⟨B + 1 + i, i, none⟩) (by show B ≤ B + 1 + i; omega) _
theorem IdTo.drewN {B n i : Nat} {w wr : World} (h : IdTo B n i w wr) (q : Nat) : IdTo B n i w (wr.drewN q) := ⟨h.size, h.out, h.row, below_drewN h.below q⟩
theorem IdTo.done {B n : Nat} {w wr : World} (h : IdTo B n n w wr) (_hB : B = w.heap.size) (hn : n ≤ 1000000) : MatM B wr (.slice (some ⟨B, 0, none⟩) n n) (fun j => B + 1 + j) (fun _ => n) (idM n) := by
  obtain ⟨hsz, ⟨C, hC, hCs, hCj⟩, hrow, -⟩ := h
  refine ⟨⟨by simp, .inr ⟨B, n, C, by rw [idM_length], Nat.le_refl _, hC, by rw [idM_length]; exact Nat.le_refl _, by unfold maxLen; omega, by simp [hCs], ?_⟩⟩, fun i hi => ?_, fun i j _ _ e => by have e' : B + 1 + i = B + 1 + j := e; omega⟩
  · rw [idM_length]
    apply List.ext_getElem?
    intro j
    rw [List.getElem?_take]
    by_cases hj : j < n
    · rw [if_pos (by omega), Array.getElem?_toList, hCj j hj]
      rw [List.getElem?_map, List.getElem?_range hj]
      simp only [Option.map_some, idM_row hj, idRow_length]
    · rw [if_neg (by omega), List.getElem?_eq_none (by simp; omega)]
  · rw [idM_length] at hi
    rw [idM_row hi, idRow_length]
    exact ⟨by omega, hrow i hi, Nat.le_refl _, by omega⟩
def IdPost (n : Nat) (w : World) (e : Ending) (w' : World) : Prop := ∃ A c bl cs, e = .returned (.slice A n c) ∧ MatM w.heap.size w' (.slice A n c) bl cs (idM n) ∧ Below w.heap.size w w'
set_option maxRecDepth 100000 in
set_option maxHeartbeats 1000000 in
theorem identity33_any (w : World) (n : Nat) (hn : n ≤ 1000000) : Calls Try.prog 33 #[.int .i64 (n : Int)] w (IdPost n w) := by
  obtain ⟨w1, C1, hm1, hC1, hs1, hb1, hz1⟩ := make22_any w n hn
  have HM1 := Lib.hid hm1
  have hstart : IdTo w.heap.size n 0 w w1 := ⟨by omega, ⟨C1, hC1, hs1, fun j hj => absurd hj (by omega)⟩, fun j hj => absurd hj (by omega), hb1⟩
  have HST := Lib.hid hstart
  clear hm1 hC1 hs1 hb1 hz1 hstart
  obtain ⟨B, hB⟩ : ∃ B, B = w.heap.size := ⟨_, rfl⟩
  rw [← hB] at HM1 HST
  have HB := Lib.hid hB
  clear hB
  have hn0 : (0 : Int) ≤ (n : Int) := Int.natCast_nonneg _
  have hnb : (n : Int) ≤ 1000000 := by omega
  go_enter Try.func33, Try.ntmps33
  go_wp2_with ((with_reducible refine wpList_sel 6 ?_); refine wpList_val rfl (r_make 22 (.tmp 5) (.tmp 5) rfl rfl rfl HM1.out) ?_)
  go_loopw [9] (fun z wr => ∃ i : Nat, i ≤ n ∧ z = .int .i64 i ∧ Hid (IdTo B n i w wr)) (fun z _ => n - (intOf z).toNat)
  case atStart => exact ⟨0, by omega, rfl, HST⟩
  case round =>
    obtain ⟨i, hi, rfl, HI⟩ := hrel
    have hi0 : (0 : Int) ≤ (i : Int) := Int.natCast_nonneg _
    by_cases hlt : i < n
    · have hlt' : (i : Int) < (n : Int) := by omega
      obtain ⟨w2, hm2, hx2, hb2, hz2⟩ := make25_any wr n hn
      have hsz := HI.out.size
      have HSTEP := Lib.hid (HI.out.step hlt hx2 hb2 hz2)
      obtain ⟨⟨u, hu⟩, hfu⟩ := HI.out.cell hlt
      have hu2 : w2.cell? ⟨B, i, none⟩ = some u := (hb2.cell (p := ⟨B, i, none⟩) (by show B < wr.heap.size; omega)).trans hu
      have hf2 : w2.frozen? ⟨B, i, none⟩ = false := (hb2.frozen (p := ⟨B, i, none⟩) (by show B < wr.heap.size; omega)).trans hfu
      have hc3 : w2.cell? ⟨B + 1 + i, i, none⟩ = some (.int .i64 0) := by
        have h := hx2.cell (k := i) (by simp; omega)
        rw [getD_replicate _ _ _ hlt, hsz] at h
        exact h
      have hf3 : w2.frozen? ⟨B + 1 + i, i, none⟩ = false := by
        have h := hx2.frozen i
        rw [hsz] at h
        exact h
      rw [hsz] at hm2
      have HM2 := Lib.hid hm2
      have hne : B + 1 + i ≠ B := by omega
      have hne' : B ≠ B + 1 + i := by omega
      clear hm2 hx2 hb2 hz2 hsz hu hfu
      generalize hP : B + 1 + i = P at *
      have HP := Lib.hid hP
      clear hP
      go_wp2_with ((with_reducible refine wpList_sel 15 ?_); refine wpList_val rfl (r_make 25 (.tmp 14) (.tmp 14) rfl rfl rfl HM2.out) ?_)
      go_roundw
      case rel => exact ⟨i + 1, by omega, by go_num, HSTEP⟩
      case measure => simp [intOf]; omega
    · obtain rfl : i = n := by omega
      have HD := Lib.hid (HI.out.done HB.out hn)
      have HBL := Lib.hid HI.out.below
      go_wp2_with fail
      go_ret
      exact ⟨_, _, _, _, rfl, by rw [← HB.out]; exact HD.out, by rw [← HB.out]; exact HBL.out⟩
end Go.Proofs
namespace Go.Proofs
open Go.RowKit Go.Shelf Go.Proofs.Sm
section
variable {ops : Array Oper} {o : Oper} {a : Act} {w w' : World} {K : Act → World → Prop} {Q : Exit → Act → World → Prop} {E : Prop} {v : Value}
theorem step_sel (s : Nat) {op : Op} {t : TypeId} {p : String} {af : Array Edge} {g : Option (Nat × Bool)} (h : if Region.wanted ⟨some s, op, t, p, af, g⟩ (yielded ops a.tmps) = true then Oper.wp Try.prog ⟨some s, op, t, p, af, g⟩ a w K Q else E) : if Region.wanted ⟨some s, op, t, p, af, g⟩ (yielded ops a.tmps) = true then Oper.wp Try.prog ⟨some s, op, t, p, af, g⟩ a w K Q else E := h
theorem step_val (hgd : o.guard = none) (hr : (execOp a.eval o).run Try.prog w = .ok (.value v) w') (h : K (a.put o.dst v) w') : if Region.wanted o (yielded ops a.tmps) = true then Oper.wp Try.prog o a w K Q else E := by
  have hw : Region.wanted o (yielded ops a.tmps) = true := by simp [Region.wanted, hgd]
  rw [if_pos hw]
  unfold Oper.wp
  rw [hr]
  exact h
end
section
variable {T b base : Nat} {w : World} {s : S} {x : Value} {vs : Nat → Value} {bl cs : Nat → Nat → Nat}
set_option maxRecDepth 10000 in
/-- a row of the call's own joins a -/
theorem WkM.push (h : WkM T b base w s x vs bl cs) (hbw : base ≤ w.heap.size) {g c : Nat} {xs : List Int} (hx : XsAt w g xs) (hg : base ≤ g) (hc : xs.length ≤ c) (hcm : c ≤ 9223372036854775807) (hnew : ∀ k i, k < 3 → i < (s.mat k).length → bl k i ≠ g) (hl : s.a.length ≤ 1000000) :
    ∃ A' c' w', (Builtin.append_ #[22, 22] 22 #[vs 0, .slice (some ⟨w.heap.size, 0, none⟩) 1 1]).run Try.prog (w.alloc (.cells #[.slice (some ⟨g, 0, none⟩) xs.length c] 25)) = .ok (.slice A' (s.a.length + 1) c') w' ∧
      (∃ u, w'.cell? ⟨b, 0, none⟩ = some u) ∧ w'.frozen? ⟨b, 0, none⟩ = false ∧
      (∃ vs' bl' cs', WkM T b base (w'.setCell ⟨b, 0, none⟩ (.slice A' (s.a.length + 1) c')) { s with a := s.a ++ [xs] } x vs' bl' cs') ∧ Below base w (w'.setCell ⟨b, 0, none⟩ (.slice A' (s.a.length + 1) c')) := by
  obtain ⟨A', c', w', hr, ho, hgr, hw⟩ := run_push (ty := 22) Try.underlying22 info24p rfl (by omega) w base (vs 0) s.a.length _ (h.out 0 (by omega)) (.slice (some ⟨g, 0, none⟩) xs.length c) rfl (by omega) hbw
  have hkeep : ∀ p, p < w.heap.size → (vs 0).ownBlock ≠ some p → w'.heap[p]? = w.heap[p]? := fun p hp hn => hgr.block p hp (Ne.symm hn)
  have h0 := owns_block (h.out 0 (by omega))
  have htyne : ∀ {p : Nat} {C : Array Value} {e : TypeId}, w.heap[p]? = some (.cells C e (0, 0)) → e ≠ 25 → (vs 0).ownBlock ≠ some p := fun {p C e} hp he e2 => by
    obtain ⟨-, C', hC'⟩ := h0 p e2
    rw [hp] at hC'
    injection hC' with h5
    injection h5 with _ h6 _
    exact he h6
  have hbox' : w'.heap[b]? = w.heap[b]? := hkeep b h.lt (htyne h.box h.ty.2)
  have hne : ∀ p, p ≠ b → (w'.setCell ⟨b, 0, none⟩ (.slice A' (s.a.length + 1) c')).heap[p]? = w'.heap[p]? := fun p hp => Below.heap_setCell w' ⟨b, 0, none⟩ _ p hp
  have hb1 : w'.heap[b]? = some (.cells #[vs 0, vs 1, vs 2, x] T (0, 0)) := hbox'.trans h.box
  have hrow' : ∀ (p : Nat) (C : Array Value), w.heap[p]? = some (.cells C 3 (0, 0)) → (w'.setCell ⟨b, 0, none⟩ (.slice A' (s.a.length + 1) c')).heap[p]? = w.heap[p]? := fun p C hp =>
    (hne p (fun e => by
      rw [e, h.box] at hp
      injection hp with h5
      injection h5 with _ h6 _
      exact h.ty.1 h6)).trans (hkeep p (Array.getElem?_eq_some_iff.1 hp).1 (htyne hp (by decide)))
  have hm0 : (({ s with a := s.a ++ [xs] } : S).mat 0) = s.a ++ [xs] := rfl
  have hmk : ∀ k, k ≠ 0 → k < 3 → (({ s with a := s.a ++ [xs] } : S).mat k) = s.mat k := fun k hk hk3 => by
    obtain rfl | rfl : k = 1 ∨ k = 2 := by omega
    all_goals rfl
  have hgl : ∀ i, i < s.a.length → (s.a ++ [xs]).getD i [] = s.a.getD i [] := fun i hi => by simp [List.getD_eq_getElem?_getD, List.getElem?_append_left hi]
  have hgl2 : (s.a ++ [xs]).getD s.a.length [] = xs := by simp [List.getD_eq_getElem?_getD]
  obtain ⟨Cx, hCx, -⟩ := id hx
  refine ⟨A', c', w', hr, ⟨vs 0, by rw [cell_of_row _ _ _ _ _ _ hb1]; rfl⟩, by simp [World.frozen?, hb1], ⟨fun k => if k = 0 then .slice A' (s.a.length + 1) c' else vs k, fun k i => if k = 0 ∧ i = s.a.length then g else bl k i, fun k i => if k = 0 ∧ i = s.a.length then c else cs k i, h.ty, h.bb, ?_, fun k hk => ?_, fun k i hk hi => ?_, fun k i k' i' h1 h2 h3 h4 e => ?_, fun k k' h1 h2 h3 q hq hq' => ?_⟩, ?_⟩
  · rw [box_set hb1]; rfl
  · by_cases e : k = 0
    · subst e
      have e2 : (List.range (s.a.length + 1)).map (fun i => Value.slice (some ⟨if 0 = 0 ∧ i = s.a.length then g else bl 0 i, 0, none⟩) ((s.a ++ [xs]).getD i []).length (if 0 = 0 ∧ i = s.a.length then c else cs 0 i)) = ((List.range s.a.length).map fun i => Value.slice (some ⟨bl 0 i, 0, none⟩) ((s.mat 0).getD i []).length (cs 0 i)) ++ [.slice (some ⟨g, 0, none⟩) xs.length c] := by
        rw [List.range_succ, List.map_append]
        congr 1
        · refine List.map_congr_left fun i hi => ?_
          have hi' := List.mem_range.1 hi
          rw [if_neg (by omega), if_neg (by omega), hgl i hi']
          rfl
        · simp only [List.map_cons, List.map_nil, hgl2, and_self, if_true]
      have hl1 : (s.a ++ [xs]).length = s.a.length + 1 := by simp
      rw [hm0, hl1]
      show World.ownsRow _ base 25 1 (.slice A' (s.a.length + 1) c') (s.a.length + 1) ((List.range (s.a.length + 1)).map fun i => Value.slice (some ⟨if 0 = 0 ∧ i = s.a.length then g else bl 0 i, 0, none⟩) ((s.a ++ [xs]).getD i []).length (if 0 = 0 ∧ i = s.a.length then c else cs 0 i))
      rw [e2]
      refine owns_keep ho fun r hr => hne r fun e3 => ?_
      obtain ⟨-, C, hC⟩ := owns_block ho r hr
      rw [e3, hb1] at hC
      injection hC with h5
      injection h5 with _ h6 _
      exact h.ty.2 h6
    · rw [hmk k e hk]
      have e3 : ∀ i, (if k = 0 ∧ i = s.a.length then g else bl k i) = bl k i := fun i => if_neg (fun h => e h.1)
      have e4 : ∀ i, (if k = 0 ∧ i = s.a.length then c else cs k i) = cs k i := fun i => if_neg (fun h => e h.1)
      simp only [e3, e4, if_neg e]
      refine owns_keep (h.out k hk) fun r hr => ?_
      obtain ⟨-, C, hC⟩ := owns_block (h.out k hk) r hr
      have hrb : r ≠ b := fun e3 => by
        rw [e3, h.box] at hC
        injection hC with h5
        injection h5 with _ h6 _
        exact h.ty.2 h6
      exact (hne r hrb).trans (hkeep r (Array.getElem?_eq_some_iff.1 hC).1 (fun e4 => h.sep 0 k (by omega) hk (fun h => e h.symm) r e4 hr))
  · by_cases e : k = 0
    · subst e
      rw [hm0] at hi ⊢
      simp only [List.length_append, List.length_cons, List.length_nil] at hi
      by_cases e2 : i = s.a.length
      · subst e2
        rw [if_pos ⟨rfl, rfl⟩, if_pos ⟨rfl, rfl⟩, hgl2]
        exact ⟨hg, hx.keep (hrow' g Cx hCx), hc, hcm⟩
      · have hi' : i < s.a.length := by omega
        rw [if_neg (fun h => e2 h.2), if_neg (fun h => e2 h.2), hgl i hi']
        obtain ⟨a1, a2, a3⟩ := h.row 0 i (by omega) hi'
        obtain ⟨C, hC⟩ := h.row_ty (k := 0) (by omega) hi'
        exact ⟨a1, a2.keep (hrow' _ C hC), a3⟩
    · rw [hmk k e hk] at hi ⊢
      rw [if_neg (fun h => e h.1), if_neg (fun h => e h.1)]
      obtain ⟨a1, a2, a3⟩ := h.row k i hk hi
      obtain ⟨C, hC⟩ := h.row_ty hk hi
      exact ⟨a1, a2.keep (hrow' _ C hC), a3⟩
  · have conv : ∀ k i, k < 3 → i < (({ s with a := s.a ++ [xs] } : S).mat k).length → ¬ (k = 0 ∧ i = s.a.length) → i < (s.mat k).length := fun k i hk hi hn => by
      by_cases e : k = 0
      · subst e
        rw [hm0] at hi
        simp only [List.length_append, List.length_cons, List.length_nil] at hi
        show i < s.a.length
        omega
      · rw [hmk k e hk] at hi; exact hi
    by_cases c1 : k = 0 ∧ i = s.a.length
    · by_cases c2 : k' = 0 ∧ i' = s.a.length
      · exact ⟨by omega, by omega⟩
      · simp only [if_pos c1, if_neg c2] at e
        exact absurd e.symm (hnew k' i' h2 (conv k' i' h2 h4 c2))
    · by_cases c2 : k' = 0 ∧ i' = s.a.length
      · simp only [if_neg c1, if_pos c2] at e
        exact absurd e (hnew k i h1 (conv k i h1 h3 c1))
      · simp only [if_neg c1, if_neg c2] at e
        exact h.inj k i k' i' h1 h2 (conv k i h1 h3 c1) (conv k' i' h2 h4 c2) e
  · have hfresh : ∀ q, (Value.slice A' (s.a.length + 1) c').ownBlock = some q → (vs 0).ownBlock = some q ∨ w.heap.size ≤ q := fun q hq => by
      rcases hw with hw | ⟨r, hr, hge⟩
      · exact .inl (by rw [← hw]; exact hq)
      · rw [hr] at hq; cases hq; exact .inr hge
    by_cases e : k = 0
    · subst e
      have hk' : ¬ k' = 0 := fun h => h3 h.symm
      simp only [if_true, if_neg hk'] at hq hq'
      rcases hfresh q hq with h5 | h5
      · exact h.sep 0 k' (by omega) h2 h3 q h5 hq'
      · have := owns_lt (h.out k' h2) hq'; omega
    · by_cases e' : k' = 0
      · subst e'
        simp only [if_true, if_neg e] at hq hq'
        rcases hfresh q hq' with h5 | h5
        · exact h.sep 0 k (by omega) h1 (fun h => e h.symm) q h5 hq
        · have := owns_lt (h.out k h1) hq; omega
      · simp only [if_neg e, if_neg e'] at hq hq'
        exact h.sep k k' h1 h2 h3 q hq hq'
  · exact ((Below.refl base w).grown hgr hbw (fun r hr => (h0 r hr).1)).setCell (p := ⟨b, 0, none⟩) h.bb _
end
/-- the state at the start: no rows yet -/
theorem WkM.start {base : Nat} {w : World} {r n : Nat} {vu vv : Value} {blu csu blv csv : Nat → Nat} (hbw : base ≤ w.heap.size) (hu : MatM base w vu blu csu (idM r)) {base2 : Nat} (hb2 : base ≤ base2) (hult : (∀ i, i < r → blu i < base2) ∧ ∀ g, vu.ownBlock = some g → g < base2) (hv : MatM base2 w vv blv csv (idM n)) :
    Wk 66 w.heap.size base (w.alloc (.cells #[.slice none 0 0, vu, vv, .int .i64 0] 66)) ⟨[], idM r, idM n, 0⟩ (.int .i64 0) := by
  have hal : Below w.heap.size w (w.alloc (.cells #[.slice none 0 0, vu, vv, .int .i64 0] 66)) := (Below.refl _ _).alloc (Nat.le_refl _) _
  have hu2 := hu.keep hal
  have hv2 := hv.keep hal
  refine ⟨fun k => if k = 0 then .slice none 0 0 else if k = 1 then vu else vv, fun k i => if k = 1 then blu i else blv i, fun k i => if k = 1 then csu i else csv i, ⟨by decide, by decide⟩, hbw, heap_alloc_new w _, fun k hk => ?_, fun k i hk hi => ?_, fun k i k' i' h1 h2 h3 h4 e => ?_, fun k k' h1 h2 h3 q hq hq' => ?_⟩
  · obtain rfl | rfl | rfl : k = 0 ∨ k = 1 ∨ k = 2 := by omega
    · exact World.ownsRow_nil _ _ _ _
    · exact hu2.out
    · exact owns_base hv2.out hb2
  · obtain rfl | rfl | rfl : k = 0 ∨ k = 1 ∨ k = 2 := by omega
    · exact absurd hi (Nat.not_lt_zero _)
    · exact hu2.row i hi
    · obtain ⟨a1, a2, a3⟩ := hv2.row i hi
      exact ⟨Nat.le_trans hb2 a1, a2, a3⟩
  · obtain rfl | rfl | rfl : k = 0 ∨ k = 1 ∨ k = 2 := by omega
    · exact absurd h3 (Nat.not_lt_zero _)
    · obtain rfl | rfl | rfl : k' = 0 ∨ k' = 1 ∨ k' = 2 := by omega
      · exact absurd h4 (Nat.not_lt_zero _)
      · exact ⟨rfl, hu2.inj i i' h3 h4 e⟩
      · have e2 : blu i = blv i' := e
        have h5 := hult.1 i (by rw [← idM_length r]; exact h3)
        have h6 := (hv2.row i' h4).1
        omega
    · obtain rfl | rfl | rfl : k' = 0 ∨ k' = 1 ∨ k' = 2 := by omega
      · exact absurd h4 (Nat.not_lt_zero _)
      · have e2 : blv i = blu i' := e
        have h5 := hult.1 i' (by rw [← idM_length r]; exact h4)
        have h6 := (hv2.row i h3).1
        omega
      · exact ⟨rfl, hv2.inj i i' h3 h4 e⟩
  · obtain rfl | rfl | rfl : k = 0 ∨ k = 1 ∨ k = 2 := by omega
    · cases hq
    · obtain rfl | rfl | rfl : k' = 0 ∨ k' = 1 ∨ k' = 2 := by omega
      · cases hq'
      · exact h3 rfl
      · have h5 := hult.2 q hq
        have h6 := (owns_block hv2.out q hq').1
        omega
    · obtain rfl | rfl | rfl : k' = 0 ∨ k' = 1 ∨ k' = 2 := by omega
      · cases hq'
      · have h5 := hult.2 q hq'
        have h6 := (owns_block hv2.out q hq).1
        omega
      · exact h3 rfl
end Go.Proofs
