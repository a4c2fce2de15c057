/- (smith.work).spread; (smith.work).choose; (smith.work).run: the loop over the steps, and the closure that catches a failure; slices.Clone at a list of numbers; smith.Check. -/
import Derived.Test.YthfachbkcmifbaaGreatGrCS5
import Derived.Defers
import Derived.Recover
namespace Go.Proofs
open Go.RowKit Go.Shelf Go.Proofs.Sm
theorem find_range {lo hi i : Nat} {p : Nat → Bool} (h1 : lo ≤ i) (h2 : i < hi) (hp : p i = true) (hz : ∀ k, lo ≤ k → k < i → p k = false) : (List.range' lo (hi - lo)).find? p = some i := by
  have e : List.range' lo (hi - lo) = List.range' lo (i - lo) ++ i :: List.range' (i + 1) (hi - (i + 1)) := by
    rw [show hi - lo = (i - lo) + ((hi - (i + 1)) + 1) by omega, ← List.range'_append_1, List.range'_succ]
    congr 2
    · omega
    · congr 1; omega
  rw [e, List.find?_append, List.find?_eq_none.2 (fun x hx => by
    rw [List.mem_range'_1] at hx
    rw [hz x (by omega) (by omega)]; decide)]
  simp [hp]
theorem find_none {lo hi : Nat} {p : Nat → Bool} (hz : ∀ k, lo ≤ k → k < hi → p k = false) : (List.range' lo (hi - lo)).find? p = none := by
  rw [List.find?_eq_none]
  intro x hx
  rw [List.mem_range'_1] at hx
  rw [hz x (by omega) (by omega)]; decide
theorem fit_one {m : Mat} (h : ∀ i j, -1000000000 ≤ ent m i j ∧ ent m i j ≤ 1000000000) (i k : Nat) : FitR m i k 1 := fun j => by
  have h1 := h i j
  have h2 := h k j
  unfold In64
  omega
theorem mid_one {r n : Nat} {s : S} (h : Base r n s) {i k : Nat} (hi : i < r) (hk : k < r) : ∀ y ∈ allRows (s.addR i k 1), ∀ z ∈ y, Mid z := by
  refine mid_rows (fun p j => ?_) (fun p j => ?_) (fun p j => mid_of (h.bdv p j))
  · show Mid (ent (Sm.addR s.a i k 1) p j)
    rw [ent_addR h.sh.ra hi hk]
    have h1 := h.bda i j
    have h2 := h.bda k j
    have h3 := h.bda p j
    unfold Mid
    split <;> omega
  · show Mid (ent (Sm.addR s.u i k 1) p j)
    rw [ent_addR h.sh.ru hi hk]
    have h1 := h.bdu i j
    have h2 := h.bdu k j
    have h3 := h.bdu p j
    unfold Mid
    split <;> omega
/-- what a step that spreads comes to -/
def SpreadPost (b base r n : Nat) (s : S) (w : World) (e : Ending) (w' : World) : Prop :=
  (s.spreadAt r n = none ∧ StepYes b base (some .sign) s w e w') ∨ ∃ i, s.spreadAt r n = some i ∧ (((s.addR s.t i 1).fine = true ∧ StepYes b base (some .across) (s.addR s.t i 1) w e w') ∨ ((s.addR s.t i 1).fine = false ∧ StepNo base w e w'))
set_option maxRecDepth 100000 in
set_option maxHeartbeats 2000000 in
theorem spread103_any (base b r n : Nat) (w : World) (s : S) (hr : r ≤ 100000) (hn : n ≤ 100000) (hS : Wk 62 b base w s (.int .i64 (s.t : Int))) (hbw : base ≤ w.heap.size) (hp : Piv r n s) :
    Calls Tryz.prog 98 #[.pointer (some ⟨b, 0, none⟩)] w (SpreadPost b base r n s w) := by
  obtain ⟨g, d, bt, ct, k1, k2, k3, k4, k5, k6, k7, k8⟩ := hS.look hp.sh hp.ltr hp.ltn
  have hbl : b < w.heap.size := World.block_lt_of_cell? w _ k1
  have ht := hp.ltr
  have htn := hp.ltn
  have HLOOK : Hid (∀ i j, i < r → j < n → ∃ bi ci, w.cell? ⟨g, i, none⟩ = some (.slice (some ⟨bi, 0, none⟩) n ci) ∧ w.cell? ⟨bi, j, none⟩ = some (.int .i64 (ent s.a i j)) ∧ n ≤ ci ∧ ci ≤ 9223372036854775807) := Lib.hid fun i j hi hj => by
    obtain ⟨g2, d2, bi, ci, q1, -, q3, q4, q5, q6, -, -⟩ := hS.look hp.sh hi hj
    rw [k1] at q1
    have e : g = g2 := by injection q1 with e1; injection e1 with e2; injection e2 with e3; injection e3
    subst e
    exact ⟨bi, ci, q3, q4, q5, q6⟩
  have HS := Lib.hid hS
  have HP := Lib.hid hp
  have HADD : Hid (∀ i, i < r → ∀ W, Below w.heap.size w W → Calls Tryz.prog 100 #[.agg #[.pointer (some ⟨b, 0, none⟩)], .int .i64 (s.t : Int), .int .i64 (i : Int), .int .i64 1] W fun e w' => e = .returned (.tuple #[]) ∧ Wk 62 b base w' (s.addR s.t i 1) (.int .i64 (s.t : Int)) ∧ Ch base W w') := Lib.hid fun i hi W hb =>
    radd106_any base b s.t i r n 1 W s _ hp.sh ht hi (by omega) (by omega) (hS.below hb) (Nat.le_trans hbw hb.size) (fit_one hp.toBase.bda _ _) (fit_one hp.toBase.bdu _ _)
  have HCK : Hid (∀ i, i < r → ∀ W, Wk 62 b base W (s.addR s.t i 1) (.int .i64 (s.t : Int)) → Calls Tryz.prog 94 #[.pointer (some ⟨b, 0, none⟩)] W (CheckPost W.heap.size (s.addR s.t i 1).fine W)) := Lib.hid fun i hi W h =>
    check99_any base b r n W _ _ (hp.sh.addR hi 1) hr hn h (mid_one hp.toBase ht hi)
  have hpiv := hp.piv
  clear hS hp
  generalize hy : ent s.a s.t s.t = y at *
  have HY := Lib.hid hy
  obtain ⟨t, hst⟩ : ∃ t, t = s.t := ⟨_, rfl⟩
  rw [← hst] at k2 k3 k4 ht htn HADD HCK
  have HT := Lib.hid hst
  clear hst hy
  have ht0 : (0 : Int) ≤ (t : Int) := Int.natCast_nonneg _
  have htr : (t : Int) < (r : Int) := by omega
  have htn' : (t : Int) < (n : Int) := by omega
  have htb : (t : Int) + 1 ≤ 100000 := by omega
  have hws : IntKind.i64.wrap ((t : Int) + 1) = (t : Int) + 1 := IntWalk.i64_in _ (by omega)
  have hw0 : (0 : Int) ≤ (t : Int) + 1 := by omega
  have hwt : ((t : Int) + 1).toNat = t + 1 := by omega
  have hwn : (t : Int) + 1 ≤ (n : Int) := by omega
  go_enter Tryz.func98, Tryz.ntmps98
  go_wp2_with fail
  go_loopw [3] (fun z wr => ∃ i : Nat, t + 1 ≤ i ∧ i ≤ r ∧ z = .int .i64 i ∧ Hid (∀ k, t + 1 ≤ k → k < i → s.odd n k = false) ∧ ∃ q, wr = w.drewN q) (fun z _ => r - (intOf z).toNat)
  case atStart => exact ⟨t + 1, by omega, by omega, by go_num, Lib.hid (fun k h1 h2 => absurd h2 (by omega)), 0, rfl⟩
  case round =>
    obtain ⟨i, hi1, hi2, rfl, HZ, q, rfl⟩ := hrel
    have hi0 : (0 : Int) ≤ (i : Int) := Int.natCast_nonneg _
    by_cases hlt : i < r
    · have hlt' : (i : Int) < (r : Int) := by omega
      obtain ⟨bi, ci, q1, -, q3, q4⟩ := HLOOK.out i t hlt htn
      have hci : (n : Int) ≤ (ci : Int) := by omega
      have HINNER : Hid (∀ j, j < n → ∃ x, x = ent s.a i j ∧ w.cell? ⟨bi, j, none⟩ = some (.int .i64 x)) := Lib.hid fun j hj => by
        obtain ⟨bi2, ci2, p1, p2, -, -⟩ := HLOOK.out i j hlt hj
        rw [q1] at p1
        have e : bi = bi2 := by injection p1 with e1; injection e1 with e2; injection e2 with e3; injection e3
        subst e
        exact ⟨_, rfl, p2⟩
      by_cases hcap : ci = t + 1
      · obtain rfl : n = t + 1 := by omega
        have HZ2 : Hid (∀ k, t + 1 ≤ k → k < i + 1 → s.odd (t + 1) k = false) := Lib.hid fun k h1 h2 => by
          by_cases e : k = i
          · subst e
            cases hb : s.odd (t + 1) k with
            | false => rfl
            | true =>
              obtain ⟨j, a1, a2, -⟩ := odd_iff.1 hb
              rw [← HT.out] at a1
              omega
          · exact HZ.out k h1 (by omega)
        subst hcap
        go_wp2_with fail
        go_quiet (fail)
        go_wp2_with fail
        go_loopw [34] (fun z wr => z = .int .i64 0 ∧ ∃ q', wr = w.drewN q') (fun _ _ => 0)
        case atStart => exact ⟨by first | rfl | trivial, by first | exact ⟨_, rfl⟩ | exact ex_drewN⟩
        case round =>
          obtain ⟨rfl, q', rfl⟩ := hrel
          go_wp2_with fail
          go_roundw
          case rel => exact ⟨i + 1, by omega, by omega, by go_num, HZ2, _, rfl⟩
          case measure => simp [intOf]; omega
      · have hcap' : (t : Int) + 1 < (ci : Int) := by omega
        go_wp2_with fail
        go_quiet (fail)
        go_wp2_with fail
        obtain ⟨N, hN⟩ : ∃ N, N = n - (t + 1) := ⟨_, rfl⟩
        rw [← hN]
        have HN : Hid (n = t + 1 + N) := Lib.hid (by omega)
        have hNb : (N : Int) ≤ 100000 := by omega
        clear hN
        go_loopw [34] (fun z wr => ∃ m : Nat, m ≤ N ∧ z = .int .i64 m ∧ Hid (∀ k, t + 1 ≤ k → k < t + 1 + m → (ent s.a i k).tmod y = 0) ∧ ∃ q', wr = w.drewN q') (fun z _ => N - (intOf z).toNat)
        case atStart => exact ⟨0, by omega, rfl, Lib.hid (fun k h1 h2 => absurd h2 (by omega)), by first | exact ⟨_, rfl⟩ | exact ex_drewN⟩
        case round =>
          obtain ⟨m, hm, rfl, HY2, q', rfl⟩ := hrel
          have hm0 : (0 : Int) ≤ (m : Int) := Int.natCast_nonneg _
          by_cases hml : m < N
          · have hml' : (m : Int) < (N : Int) := by omega
            obtain ⟨x, hx, hxc⟩ := HINNER.out (t + 1 + m) (by rw [HN.out]; omega)
            have HX := Lib.hid hx
            clear hx
            by_cases hx0 : x.tmod y = 0
            · have hd1 : (x.tmod y != 0) = false := by simpa using hx0
              have HX0 := Lib.hid hx0
              clear hx0
              have hyb : (y == 0) = false := by simpa using hpiv
              go_wp2_with fail
              go_quiet (fail)
              go_wp2_with fail
              go_roundw
              case rel => exact ⟨m + 1, by omega, by go_num, Lib.hid (fun k h1 h2 => by
                by_cases e : k = t + 1 + m
                · rw [e, ← HX.out]; exact HX0.out
                · exact HY2.out k h1 (by omega)), by first | exact ⟨_, rfl⟩ | exact ex_drewN⟩
              case measure => simp [intOf]; omega
            · have hd1 : (x.tmod y != 0) = true := by simpa using hx0
              have hyb : (y == 0) = false := by simpa using hpiv
              have HSA : Hid (s.spreadAt r n = some i) := Lib.hid (by
                have hodd : s.odd n i = true := odd_iff.2 ⟨t + 1 + m, by rw [← HT.out]; omega, by rw [HN.out]; omega, by rw [← HX.out, HY.out]; exact hx0⟩
                unfold S.spreadAt
                rw [← HT.out]
                exact find_range hi1 hlt hodd HZ.out)
              have HA := Lib.hid (HADD.out i hlt)
              have HC := Lib.hid (HCK.out i hlt)
              clear hx0
              have hkeep : ∀ q, Below w.heap.size w (w.drewN q) := fun q => below_drewN (Below.refl _ _) q
              have HK := Lib.hid hkeep
              clear hkeep
              cases hf : (s.addR t i 1).fine with
              | true =>
                have HC2 : Hid (∀ W, Wk 62 b base W (s.addR t i 1) (.int .i64 (t : Int)) → Calls Tryz.prog 94 #[.pointer (some ⟨b, 0, none⟩)] W fun e w' => e = .returned (.tuple #[]) ∧ Below W.heap.size W w') := Lib.hid fun W h => (HC.out W h).mono fun e w' h1 => ⟨by
                  obtain ⟨h2, -⟩ := h1
                  rcases h2 with ⟨-, h3⟩ | ⟨h3, -⟩
                  · exact h3
                  · exact absurd (hf.symm.trans h3) (by decide), h1.2⟩
                have HF := Lib.hid hf
                clear hf HC
                go_wp2_with fail
                go_quiet (fail)
                go_wp2_with (first
                  | (go_at_call 100; (refine (HA.out _ (by first | exact HK.out _ | exact below_drewN (HK.out _) _)).mono ?_); rintro e w1 ⟨rfl, h1, h2⟩; have H1 := Lib.hid h1; have H2 := Lib.hid (((Ch.refl base w).drewN _).trans h2); clear h1 h2)
                  | (go_at_call 94; (refine (HC2.out _ H1.out).mono ?_); rintro e w2 ⟨rfl, h3⟩; have H3 := Lib.hid h3; clear h3))
                go_ret
                exact .inr ⟨i, HSA.out, .inl ⟨by rw [← HT.out]; exact HF.out, rfl, by show Wk 62 b base _ (s.addR s.t i 1) (.int .i64 (s.t : Int)); rw [← HT.out]; exact H1.out.below H3.out, H2.out.trans (Ch.of_below (Nat.le_trans hbw H2.out.size) H3.out)⟩⟩
              | false =>
                have HC2 : Hid (∀ W, Wk 62 b base W (s.addR t i 1) (.int .i64 (t : Int)) → Calls Tryz.prog 94 #[.pointer (some ⟨b, 0, none⟩)] W fun e w' => e = .panicked failP ∧ Below W.heap.size W w') := Lib.hid fun W h => (HC.out W h).mono fun e w' h1 => ⟨by
                  obtain ⟨h2, -⟩ := h1
                  rcases h2 with ⟨h3, -⟩ | ⟨-, h3⟩
                  · exact absurd (h3.symm.trans hf) (by decide)
                  · exact h3, h1.2⟩
                have HF := Lib.hid hf
                clear hf HC
                go_wp2_with fail
                go_quiet (fail)
                go_wp2_with (first
                  | (go_at_call 100; (refine (HA.out _ (by first | exact HK.out _ | exact below_drewN (HK.out _) _)).mono ?_); rintro e w1 ⟨rfl, h1, h2⟩; have H1 := Lib.hid h1; have H2 := Lib.hid (((Ch.refl base w).drewN _).trans h2); clear h1 h2)
                  | (go_at_call 94; (refine (HC2.out _ H1.out).mono ?_); rintro e w2 ⟨rfl, h3⟩; have H3 := Lib.hid h3; clear h3))
                exact ⟨rfl, .inr ⟨i, HSA.out, .inr ⟨by rw [← HT.out]; exact HF.out, rfl, H2.out.trans (Ch.of_below (Nat.le_trans hbw H2.out.size) H3.out)⟩⟩⟩
          · obtain rfl : m = N := by omega
            have HZ2 : Hid (∀ k, t + 1 ≤ k → k < i + 1 → s.odd n k = false) := Lib.hid fun k h1 h2 => by
              by_cases e : k = i
              · subst e
                cases hb : s.odd n k with
                | false => rfl
                | true =>
                  obtain ⟨j, a1, a2, a3⟩ := odd_iff.1 hb
                  rw [← HT.out] at a1
                  rw [HY.out] at a3
                  exact absurd (HY2.out j a1 (by have := HN.out; omega)) a3
              · exact HZ.out k h1 (by omega)
            go_wp2_with fail
            go_roundw
            case rel => exact ⟨i + 1, by omega, by omega, by go_num, HZ2, by first | exact ⟨_, rfl⟩ | exact ex_drewN⟩
            case measure => simp [intOf]; omega
    · obtain rfl : i = r := by omega
      have HSA : Hid (s.spreadAt i n = none) := Lib.hid (by unfold S.spreadAt; rw [← HT.out]; exact find_none HZ.out)
      go_wp2_with fail
      go_ret
      exact .inl ⟨HSA.out, rfl, HS.out.drewN _, (Ch.refl base w).drewN _⟩
end Go.Proofs
namespace Go.Proofs
open Go.RowKit Go.Shelf Go.Proofs.Sm
def optX : Option (Nat × Nat) → Int
  | none => -1
  | some p => (p.1 : Int)
def optY : Option (Nat × Nat) → Int
  | none => -1
  | some p => (p.2 : Int)
theorem better_zero {a : Mat} {i j : Nat} {o : Option (Nat × Nat)} (h : ent a i j = 0) : better a i o j = o := by
  rcases o with _ | ⟨x, y⟩
  · simp [better, h]
  · simp [better, h]
theorem better_none {a : Mat} {i j : Nat} (h : ent a i j ≠ 0) : better a i none j = some (i, j) := by simp [better, h]
theorem better_lt {a : Mat} {i j x y : Nat} (h : ent a i j ≠ 0) (hl : (ent a i j).natAbs < (ent a x y).natAbs) : better a i (some (x, y)) j = some (i, j) := by simp [better, h, hl]
theorem better_ge {a : Mat} {i j x y : Nat} (hl : ¬ (ent a i j).natAbs < (ent a x y).natAbs) : better a i (some (x, y)) j = some (x, y) := by simp [better, hl]
def ChoosePost (b base r n : Nat) (s : S) (w : World) (e : Ending) (w' : World) : Prop :=
  (least s.a s.t r n = none ∧ StepYes b base none s w e w') ∨ ∃ x y, least s.a s.t r n = some (x, y) ∧ StepYes b base (some .down) ((s.swR s.t x).swC s.t y) w e w'
set_option maxRecDepth 100000 in
theorem choose56_end (base b r n : Nat) (w : World) (s : S) (_hr : r ≤ 100000) (_hn : n ≤ 100000) (hS : Wk 62 b base w s (.int .i64 (s.t : Int))) (hs : Shape r n s) (ht : s.t = r ∨ s.t = n) :
    Calls Tryz.prog 55 #[.pointer (some ⟨b, 0, none⟩)] w (StepYes b base none s w) := by
  have HW := Lib.hid hS
  obtain ⟨vs, bl, cs, hM⟩ := hS
  obtain ⟨c0, c1, c2, c3, c4⟩ := hM.cells
  obtain ⟨A0, d0, hv0, -, -⟩ := hM.form (k := 0) (by omega)
  obtain ⟨A2, d2, hv2, -, -⟩ := hM.form (k := 2) (by omega)
  rw [show (s.mat 0).length = r from hs.ra.1] at hv0
  rw [show (s.mat 2).length = n from hs.rv.1] at hv2
  rw [hv0] at c0
  rw [hv2] at c2
  clear hM hs hv0 hv2 c1 c4
  have hd : ((s.t : Int) == (r : Int)) = true ∨ ((s.t : Int) == (r : Int)) = false ∧ ((s.t : Int) == (n : Int)) = true := by
    rcases ht with h | h
    · left; rw [h]; simp
    · by_cases e : s.t = r
      · left; rw [e]; simp
      · right
        exact ⟨by rw [beq_eq_false_iff_ne]; omega, by rw [h]; simp⟩
  clear ht
  generalize hst : s.t = t at *
  have HT := Lib.hid hst
  clear hst
  rcases hd with hd | ⟨hd1, hd2⟩
  · go_enter Tryz.func55, Tryz.ntmps55
    go_wp2_with fail
    go_quiet (fail)
    go_wp2_with fail
    go_ret
    exact ⟨rfl, by rw [HT.out]; exact HW.out.drewN _, (Ch.refl base w).drewN _⟩
  · go_enter Tryz.func55, Tryz.ntmps55
    go_wp2_with fail
    go_quiet (fail)
    go_wp2_with fail
    go_ret
    exact ⟨rfl, by rw [HT.out]; exact HW.out.drewN _, (Ch.refl base w).drewN _⟩
set_option maxRecDepth 100000 in
set_option maxHeartbeats 4000000 in
theorem choose56_any (base b r n : Nat) (w : World) (s : S) (hr : r ≤ 100000) (hn : n ≤ 100000) (hS : Wk 62 b base w s (.int .i64 (s.t : Int))) (hbw : base ≤ w.heap.size) (hp : Base r n s) (hrt : s.t ≠ r) (hnt : s.t ≠ n) :
    Calls Tryz.prog 55 #[.pointer (some ⟨b, 0, none⟩)] w (ChoosePost b base r n s w) := by
  have ht : s.t < r := by have := hp.tr; omega
  have htn : s.t < n := by have := hp.tn; omega
  obtain ⟨g, d, bt, ct, k1, k2, -, -, -, -, k7, k8⟩ := hS.look hp.sh ht htn
  have hc2 : ∃ A2 d2, w.cell? ⟨b, 2, none⟩ = some (.slice A2 n d2) := by
    obtain ⟨vs, bl, cs, hM⟩ := hS
    obtain ⟨c0, c1, c2, c3, c4⟩ := hM.cells
    obtain ⟨A2, d2, hv2, -, -⟩ := hM.form (k := 2) (by omega)
    rw [show (s.mat 2).length = n from hp.sh.rv.1] at hv2
    rw [hv2] at c2
    exact ⟨A2, d2, c2⟩
  obtain ⟨A2, d2, c2⟩ := hc2
  have hbl : b < w.heap.size := World.block_lt_of_cell? w _ k1
  have HLOOK : Hid (∀ i j, i < r → j < n → ∃ bi ci, w.cell? ⟨g, i, none⟩ = some (.slice (some ⟨bi, 0, none⟩) n ci) ∧ w.cell? ⟨bi, j, none⟩ = some (.int .i64 (ent s.a i j)) ∧ n ≤ ci ∧ ci ≤ 9223372036854775807) := Lib.hid fun i j hi hj => by
    obtain ⟨g2, d2, bi, ci, q1, -, q3, q4, q5, q6, -, -⟩ := hS.look hp.sh hi hj
    rw [k1] at q1
    have e : g = g2 := by injection q1 with e1; injection e1 with e2; injection e2 with e3; injection e3
    subst e
    exact ⟨bi, ci, q3, q4, q5, q6⟩
  have HBD : Hid (∀ i j, -1000000000 ≤ ent s.a i j ∧ ent s.a i j ≤ 1000000000) := Lib.hid hp.bda
  have HRS : Hid (∀ x, x < r → ∀ W, Below w.heap.size w W → Calls Tryz.prog 74 #[.agg #[.pointer (some ⟨b, 0, none⟩)], .int .i64 (s.t : Int), .int .i64 (x : Int)] W fun e w' => e = .returned (.tuple #[]) ∧ Wk 62 b base w' (s.swR s.t x) (.int .i64 (s.t : Int)) ∧ Ch base W w') := Lib.hid fun x hx W hb =>
    rswap71_any base b s.t x r n W s _ hp.sh ht hx (hS.below hb) (Nat.le_trans hbw hb.size)
  have HCS : Hid (∀ x y, x < r → y < n → ∀ W, Wk 62 b base W (s.swR s.t x) (.int .i64 (s.t : Int)) → base ≤ W.heap.size → Calls Tryz.prog 75 #[.agg #[.pointer (some ⟨b, 0, none⟩)], .int .i64 (s.t : Int), .int .i64 (y : Int)] W fun e w' => e = .returned (.tuple #[]) ∧ Wk 62 b base w' ((s.swR s.t x).swC s.t y) (.int .i64 (s.t : Int)) ∧ Ch base W w') := Lib.hid fun x y hx hy W h hb =>
    cswap72_any base b s.t y r n W (s.swR s.t x) _ (hp.sh.swR ht hx) htn hy hr hn h hb
  have HS := Lib.hid hS
  have hd1 : ((s.t : Int) == (r : Int)) = false := by rw [beq_eq_false_iff_ne]; omega
  have hd2 : ((s.t : Int) == (n : Int)) = false := by rw [beq_eq_false_iff_ne]; omega
  clear hS hp hrt hnt
  obtain ⟨t, hst⟩ : ∃ t, t = s.t := ⟨_, rfl⟩
  rw [← hst] at k2 ht htn HRS HCS hd1 hd2
  have HT := Lib.hid hst
  clear hst
  have ht0 : (0 : Int) ≤ (t : Int) := Int.natCast_nonneg _
  have htr : (t : Int) < (r : Int) := by omega
  have htn' : (t : Int) < (n : Int) := by omega
  have hrb : (r : Int) ≤ 100000 := by omega
  have hnb : (n : Int) ≤ 100000 := by omega
  go_enter Tryz.func55, Tryz.ntmps55
  go_wp2_with fail
  go_quiet (fail)
  go_wp2_with fail
  go_loopw [3, 4, 5] (fun zx zy z wr => ∃ (i : Nat) (o : Option (Nat × Nat)), t ≤ i ∧ i ≤ r ∧ z = .int .i64 i ∧ zx = .int .i64 (optX o) ∧ zy = .int .i64 (optY o) ∧ Hid (o = upto (leastRow s.a t n) none t i) ∧ Hid (∀ x y, o = some (x, y) → x < r ∧ y < n) ∧ ∃ q, wr = w.drewN q) (fun _ _ z _ => r - (intOf z).toNat)
  case atStart => exact ⟨t, none, by omega, by omega, rfl, rfl, rfl, Lib.hid (by rw [upto_self]), Lib.hid (fun x y h => by cases h), by first | exact ⟨_, rfl⟩ | exact ex_drewN⟩
  case round =>
    obtain ⟨i, o, hi1, hi2, rfl, rfl, rfl, HO, HOB, q, rfl⟩ := hrel
    have hi0 : (0 : Int) ≤ (i : Int) := Int.natCast_nonneg _
    by_cases hlt : i < r
    · have hlt' : (i : Int) < (r : Int) := by omega
      go_wp2_with fail
      go_loopw [3, 4, 6] (fun zx zy z wr => ∃ (j : Nat) (o' : Option (Nat × Nat)), t ≤ j ∧ j ≤ n ∧ z = .int .i64 j ∧ zx = .int .i64 (optX o') ∧ zy = .int .i64 (optY o') ∧ Hid (o' = upto (better s.a i) o t j) ∧ Hid (∀ x y, o' = some (x, y) → x < r ∧ y < n) ∧ ∃ q, wr = w.drewN q) (fun _ _ z _ => n - (intOf z).toNat)
      case atStart => exact ⟨t, o, by omega, by omega, rfl, rfl, rfl, Lib.hid (by rw [upto_self]), HOB, by first | exact ⟨_, rfl⟩ | exact ex_drewN⟩
      case round =>
        obtain ⟨j, o', hj1, hj2, rfl, rfl, rfl, HO', HOB', q', rfl⟩ := hrel
        have hj0 : (0 : Int) ≤ (j : Int) := Int.natCast_nonneg _
        by_cases hjl : j < n
        · have hjl' : (j : Int) < (n : Int) := by omega
          obtain ⟨bi, ci, q1, q2, q3, q4⟩ := HLOOK.out i j hlt hjl
          have hq3 : (n : Int) ≤ (ci : Int) := by omega
          have hbd := HBD.out i j
          have HSUCC : Hid (upto (better s.a i) o t (j + 1) = better s.a i o' j) := Lib.hid (by rw [upto_succ _ _ hj1, ← HO'.out])
          have HZ := Lib.hid (@better_zero s.a i j o')
          have HNN := Lib.hid (@better_none s.a i j)
          have HLT := Lib.hid (fun x y => @better_lt s.a i j x y)
          have HGE := Lib.hid (fun x y => @better_ge s.a i j x y)
          generalize hx : ent s.a i j = x at *
          obtain ⟨m, hm⟩ : ∃ m, m = x.natAbs := ⟨_, rfl⟩
          have HSZ : Hid (∀ W, Calls Tryz.prog 73 #[.int .i64 x] W fun e w' => e = .returned (.int .i64 (m : Int)) ∧ W = w') := Lib.hid fun W => by rw [hm]; exact size70_any x W (by omega) (by omega)
          have hmb : (m : Int) ≤ 1000000000 := by omega
          have HM := Lib.hid hm
          clear hx hbd
          by_cases hx0 : x = 0
          · have hd3 : decide ((0 : Int) < (m : Int)) = false := decide_eq_false (by omega)
            have hd4 : decide (0 < m) = false := decide_eq_false (by omega)
            have HX0 := Lib.hid hx0
            clear hx0 hm
            go_wp2_with (go_at_call 73; (refine (HSZ.out _).mono ?_); rintro e w' ⟨rfl, rfl⟩)
            go_roundw
            case rel => exact ⟨j + 1, o', by omega, by omega, by go_num, rfl, rfl, Lib.hid (by rw [HSUCC.out]; exact (HZ.out HX0.out).symm), HOB', by first | exact ⟨_, rfl⟩ | exact ex_drewN⟩
            case measure => simp [intOf]; omega
          · have hd3 : decide ((0 : Int) < (m : Int)) = true := decide_eq_true (by omega)
            have hd4 : decide (0 < m) = true := decide_eq_true (by omega)
            have HX0 := Lib.hid hx0
            clear hx0 hm
            have HIJ : Hid (∀ x y, some (i, j) = some (x, y) → x < r ∧ y < n) := Lib.hid fun x y h => by cases h; exact ⟨hlt, hjl⟩
            rcases o' with _ | ⟨p, pq⟩
            · have hox : optX none = -1 := rfl
              have hoy : optY none = -1 := rfl
              rw [hox, hoy]
              clear hox hoy
              go_wp2_with (go_at_call 73; (refine (HSZ.out _).mono ?_); rintro e w' ⟨rfl, rfl⟩)
              go_roundw
              case rel => exact ⟨j + 1, some (i, j), by omega, by omega, by go_num, rfl, rfl, Lib.hid (by rw [HSUCC.out]; exact (HNN.out HX0.out).symm), HIJ, by first | exact ⟨_, rfl⟩ | exact ex_drewN⟩
              case measure => simp [intOf]; omega
            · have hox : optX (some (p, pq)) = (p : Int) := rfl
              have hoy : optY (some (p, pq)) = (pq : Int) := rfl
              rw [hox, hoy]
              clear hox hoy
              obtain ⟨hpr, hpn⟩ := HOB'.out p pq rfl
              obtain ⟨bp, cp, u1, u2, u3, u4⟩ := HLOOK.out p pq hpr hpn
              have hbd2 := HBD.out p pq
              have HLT2 := Lib.hid (HLT.out p pq)
              have HGE2 := Lib.hid (HGE.out p pq)
              generalize hy : ent s.a p pq = y at *
              obtain ⟨m2, hm2⟩ : ∃ m2, m2 = y.natAbs := ⟨_, rfl⟩
              have HSZ2 : Hid (∀ W, Calls Tryz.prog 73 #[.int .i64 y] W fun e w' => e = .returned (.int .i64 (m2 : Int)) ∧ W = w') := Lib.hid fun W => by rw [hm2]; exact size70_any y W (by omega) (by omega)
              have hmb2 : (m2 : Int) ≤ 1000000000 := by omega
              have HM2 := Lib.hid hm2
              have hp0 : (0 : Int) ≤ (p : Int) := Int.natCast_nonneg _
              have hpq0 : (0 : Int) ≤ (pq : Int) := Int.natCast_nonneg _
              have hp1 : (p : Int) < (r : Int) := by omega
              have hpq1 : (pq : Int) < (n : Int) := by omega
              have hd5 : decide ((p : Int) < 0) = false := decide_eq_false (by omega)
              have hu3 : (n : Int) ≤ (cp : Int) := by omega
              clear hy hbd2 hm2
              by_cases hmm : m < m2
              · have hd6 : decide (m < m2) = true := decide_eq_true hmm
                have hd7 : decide ((m : Int) < (m2 : Int)) = true := decide_eq_true (by omega)
                go_wp2_with (go_at_call 73; (first | (with_reducible refine (HSZ.out _).mono ?_) | (with_reducible refine (HSZ2.out _).mono ?_)); rintro e w' ⟨rfl, rfl⟩)
                go_roundw
                case rel => exact ⟨j + 1, some (i, j), by omega, by omega, by go_num, rfl, rfl, Lib.hid (by rw [HSUCC.out]; exact (HLT2.out HX0.out (by rw [← HM.out, ← HM2.out]; exact hmm)).symm), HIJ, by first | exact ⟨_, rfl⟩ | exact ex_drewN⟩
                case measure => simp [intOf]; omega
              · have hd6 : decide (m < m2) = false := decide_eq_false hmm
                have hd7 : decide ((m : Int) < (m2 : Int)) = false := decide_eq_false (by omega)
                go_wp2_with (go_at_call 73; (first | (with_reducible refine (HSZ.out _).mono ?_) | (with_reducible refine (HSZ2.out _).mono ?_)); rintro e w' ⟨rfl, rfl⟩)
                go_roundw
                case rel => exact ⟨j + 1, some (p, pq), by omega, by omega, by go_num, rfl, rfl, Lib.hid (by rw [HSUCC.out]; exact (HGE2.out (by rw [← HM.out, ← HM2.out]; exact hmm)).symm), HOB', by first | exact ⟨_, rfl⟩ | exact ex_drewN⟩
                case measure => simp [intOf]; omega
        · obtain rfl : j = n := by omega
          go_wp2_with fail
          go_roundw
          case rel => exact ⟨i + 1, o', by omega, by omega, by go_num, rfl, rfl, Lib.hid (by rw [HO'.out, upto_succ _ _ hi1, ← HO.out]; rfl), HOB', by first | exact ⟨_, rfl⟩ | exact ex_drewN⟩
          case measure => simp [intOf]; omega
    · obtain rfl : i = r := by omega
      have HLE : Hid (o = least s.a s.t i n) := Lib.hid (by rw [← HT.out]; exact HO.out)
      have HK : Hid (∀ q, Below w.heap.size w (w.drewN q)) := Lib.hid fun q => below_drewN (Below.refl _ _) q
      rcases o with _ | ⟨p, pq⟩
      · have hox : optX none = -1 := rfl
        have hoy : optY none = -1 := rfl
        rw [hox, hoy]
        clear hox hoy
        go_wp2_with fail
        go_ret
        exact .inl ⟨HLE.out.symm, rfl, HS.out.drewN _, (Ch.refl base w).drewN _⟩
      · have hox : optX (some (p, pq)) = (p : Int) := rfl
        have hoy : optY (some (p, pq)) = (pq : Int) := rfl
        rw [hox, hoy]
        clear hox hoy
        obtain ⟨hpr, hpn⟩ := HOB.out p pq rfl
        have hp0 : (0 : Int) ≤ (p : Int) := Int.natCast_nonneg _
        have hd5 : decide ((p : Int) < 0) = false := decide_eq_false (by omega)
        have HR := Lib.hid (HRS.out p hpr)
        have HC := Lib.hid (HCS.out p pq hpr hpn)
        go_wp2_with (first
          | (go_at_call 74; (refine (HR.out _ (HK.out _)).mono ?_); rintro e w1 ⟨rfl, h1, h2⟩; have H1 := Lib.hid h1; have H2 := Lib.hid (((Ch.refl base w).drewN _).trans h2); have hc3 := h1.cell3.1; clear h1 h2)
          | (go_at_call 75; (refine (HC.out _ H1.out (Nat.le_trans hbw H2.out.size)).mono ?_); rintro e w2 ⟨rfl, h3, h4⟩; have H3 := Lib.hid h3; have H4 := Lib.hid (H2.out.trans h4); clear h3 h4))
        go_ret
        exact .inr ⟨p, pq, HLE.out.symm, rfl, by show Wk 62 b base _ ((s.swR s.t p).swC s.t pq) (.int .i64 (s.t : Int)); rw [← HT.out]; exact H3.out, H4.out⟩
end Go.Proofs
namespace Go.Proofs
open Go.RowKit Go.Shelf Go.Proofs.Sm
/-- the least number with a property -/
noncomputable def leastN (P : Nat → Prop) : Nat := by
  classical
  exact if h : ∃ n, P n ∧ ∀ m, m < n → ¬ P m then Classical.choose h else 0
theorem least_ex {P : Nat → Prop} {n : Nat} (h : P n) : ∃ n, P n ∧ ∀ m, m < n → ¬ P m := by
  induction n using Nat.strongRecOn with
  | _ n ih =>
    by_cases hm : ∃ m, m < n ∧ P m
    · obtain ⟨m, h1, h2⟩ := hm
      exact ih m h1 h2
    · exact ⟨n, h, fun m h1 h2 => hm ⟨m, h1, h2⟩⟩
theorem leastN_spec {P : Nat → Prop} {n : Nat} (h : P n) : P (leastN P) := by
  have hex := least_ex h
  unfold leastN
  rw [dif_pos hex]
  exact (Classical.choose_spec hex).1
theorem leastN_le {P : Nat → Prop} {n : Nat} (h : P n) : leastN P ≤ n := by
  have hex := least_ex h
  unfold leastN
  rw [dif_pos hex]
  rcases Nat.lt_or_ge n (Classical.choose hex) with h1 | h1
  · exact absurd h ((Classical.choose_spec hex).2 n h1)
  · exact h1
theorem ta83_nil (w : World) : (Instr.typeAssert .nilIface 20 79 true).run Tryz.prog w = .ok (.tuple #[.agg #[], .bool false]) w := by kernel_rfl
theorem ta83_full (w : World) : (Instr.typeAssert (.iface 79 (.agg #[])) 20 79 true).run Tryz.prog w = .ok (.tuple #[.agg #[], .bool true]) w := by kernel_rfl
theorem alloc83 (w : World) : (Instr.alloc 79 true (.tuple #[])).run Tryz.prog w = .ok (.pointer (some ⟨w.heap.size, 0, none⟩)) (w.alloc (.cells #[] 79)) := by kernel_rfl
theorem neq_nil (w : World) : (binOp .neq 20 .nilIface .nilIface).run Tryz.prog w = .ok (.bool false) w := by kernel_rfl
set_option maxRecDepth 100000 in
theorem catch55_idle (w : World) :
    CallsD Tryz.prog 54 #[] .returning w fun e u' w' => e = .returned (.tuple #[]) ∧ u' = .returning ∧ Below w.heap.size w w' := by
  refine callsD_of_wpS Tryz.func54 rfl fun c₀ cs hu => ?_
  apply wpS_seq
  apply wpS_region
  simp [wpOpsS, go_sem, recoverD, hu, Tryz.ntmps54, Exit.thenS]
  refine wpS_of_wp ?_
  show Code.wp Tryz.prog _ _ ⟨#[.nilIface, undef, undef, .nilIface, undef, undef, undef, undef, undef, undef, undef, undef, undef, undef], []⟩ w
  have h1 := ta83_nil
  have h2 := alloc83
  have h3 := neq_nil
  go_wp2_with fail
  have hB : Below w.heap.size w w := Below.refl _ _
  cases c₀
  simp_all [bodyPostS, results, Tryz.results54]
set_option maxRecDepth 100000 in
theorem catch55_full (w : World) :
    CallsD Tryz.prog 54 #[] (.panicking failP) w fun e u' w' => e = .returned (.tuple #[]) ∧ u' = .panicking [{ v := .iface 79 (.agg #[]), recovered := true }] ∧ Below w.heap.size w w' := by
  have hB : Below w.heap.size w (w.alloc (.cells #[] 79)) := (Below.refl _ _).alloc (Nat.le_refl _) _
  refine callsD_of_wpS Tryz.func54 rfl fun c₀ cs hu => ?_
  apply wpS_seq
  apply wpS_region
  simp [wpOpsS, go_sem, recoverD, hu, Tryz.ntmps54, Exit.thenS, failP]
  refine wpS_of_wp ?_
  show Code.wp Tryz.prog _ _ ⟨#[.iface 79 (.agg #[]), undef, undef, .iface 79 (.agg #[]), undef, undef, undef, undef, undef, undef, undef, undef, undef, undef], []⟩ w
  have h1 := ta83_full
  have h2 := alloc83
  have h3 := neq_nil
  go_wp2_with fail
  cases c₀
  simp_all [bodyPostS, results, Tryz.results54]
/-- the steps that are left: at most m -/
def Left (r n : Nat) (o : Option S) (p : Option Ph) (s : S) (m : Nat) : Prop := match p with
  | none => o = some s
  | some p => PI r n p s ∧ run r n m p s = some o
/-- the loop's head -/
def Head (b base r n : Nat) (w : World) (o : Option S) (m : Nat) (z : Value) (wr : World) : Prop := ∃ p s, z = stepV b p ∧ Wk 62 b base wr s (.int .i64 (s.t : Int)) ∧ Ch base w wr ∧ Left r n o p s m
/-- a step's post, by what the step does -/
def NextPost (b base r n : Nat) (p : Ph) (s : S) (w : World) (e : Ending) (w' : World) : Prop := match next r n p s with
  | none => StepNo base w e w'
  | some (p', s') => StepYes b base p' s' w e w'
def stepF : Ph → Nat
  | .choose => 55
  | .down => 76
  | .across => 87
  | .spread => 98
  | .sign => 101
theorem stepV_some (b : Nat) (p : Ph) : stepV b (some p) = .func (.func (stepF p)) #[.pointer (some ⟨b, 0, none⟩)] #[] := by cases p <;> rfl
theorem step_any (base b r n : Nat) (w : World) (s : S) (p : Ph) (hr : r ≤ 100000) (hn : n ≤ 100000) (hS : Wk 62 b base w s (.int .i64 (s.t : Int))) (hbw : base ≤ w.heap.size) (hp : PI r n p s) :
    Calls Tryz.prog (stepF p) #[.pointer (some ⟨b, 0, none⟩)] w (NextPost b base r n p s w) := by
  unfold NextPost
  cases p with
  | choose =>
    rw [next_choose]
    by_cases h : s.t = r ∨ s.t = n
    · rw [if_pos h]
      exact choose56_end base b r n w s hr hn hS hp.sh h
    · rw [if_neg h]
      refine (choose56_any base b r n w s hr hn hS hbw hp (fun e => h (.inl e)) (fun e => h (.inr e))).mono fun e w' hpost => ?_
      rcases hpost with ⟨h1, h2⟩ | ⟨x, y, h1, h2⟩
      · rw [h1]; exact h2
      · rw [h1]; exact h2
  | down =>
    rw [next_down]
    cases hf : (s.down r).fine with
    | true => exact down73_yes base b r n w s hr hn hS hbw hp hf
    | false => exact down73_no base b r n w s hr hn hS hbw hp hf
  | across =>
    rw [next_across]
    cases hf : (s.across n).fine with
    | true => exact across92_yes base b r n w s hr hn hS hbw hp hf
    | false => exact across92_no base b r n w s hr hn hS hbw hp hf
  | spread =>
    rw [next_spread]
    refine (spread103_any base b r n w s hr hn hS hbw hp.toPiv).mono fun e w' hpost => ?_
    rcases hpost with ⟨h1, h2⟩ | ⟨i, h1, h2⟩
    · rw [h1]; exact h2
    · rw [h1]
      rcases h2 with ⟨h3, h4⟩ | ⟨h3, h4⟩
      · simp only [h3, if_true]; exact h4
      · simp only [h3]; exact h4
  | sign =>
    rw [next_sign]
    exact sign107_any base b r n w s hr hn hS hbw hp.toPiv
theorem eg_step (p : Ph) : ∀ args w, (callFunc (stepF p) args).run Tryz.prog w = .ok (.enter (stepF p) args) w := by
  cases p
  · exact enters_of Tryz.func55 (by kernel_rfl) rfl
  · exact enters_of Tryz.func76 (by kernel_rfl) rfl
  · exact enters_of Tryz.func87 (by kernel_rfl) rfl
  · exact enters_of Tryz.func98 (by kernel_rfl) rfl
  · exact enters_of Tryz.func101 (by kernel_rfl) rfl
theorem neq_step (f : Nat) (a : Addr) (w : World) : (binOp .neq 82 (.func (.func f) #[.pointer (some a)] #[]) .nilFunc).run Tryz.prog w = .ok (.bool true) w := by kernel_rfl
theorem neq_step0 (w : World) : (binOp .neq 82 .nilFunc .nilFunc).run Tryz.prog w = .ok (.bool false) w := by kernel_rfl
def RunPost (b base : Nat) (o : Option S) (w : World) (e : Ending) (w' : World) : Prop := Ch base w w' ∧ match o with
  | none => e = .returned (.bool false)
  | some s => e = .returned (.bool true) ∧ Wk 62 b base w' s (.int .i64 (s.t : Int))
theorem res35 {w : World} {x : Bool} (tmps : Array Value) (h2 : tmps[2]? = some (.bool x)) : (results Tryz.f38 tmps).run Tryz.prog w = .ok (.bool x) w := by
  simp [results, Tryz.results38, go_sem, h2]
theorem leave35 {w : World} {x : Bool} (tmps : Array Value) (h2 : tmps[2]? = some (.bool x)) {R : Ending → World → Prop} (hR : R (.returned (.bool x)) w) : Leaves Tryz.prog Tryz.f38 tmps R [] .returning w := ⟨_, res35 tmps h2, hR⟩
theorem left_no {r n m : Nat} {o : Option S} {p : Ph} {s : S} (h : run r n m p s = some o) (hn : next r n p s = none) : o = none := by
  cases m with
  | zero => cases h
  | succ m =>
    unfold run at h
    rw [hn] at h
    exact (Option.some.inj h).symm
theorem left_yes {r n m : Nat} {o : Option S} {p : Ph} {p' : Option Ph} {s s' : S} (hp : PI r n p s) (h : run r n m p s = some o) (hn : next r n p s = some (p', s')) : ∃ m', m' < m ∧ Left r n o p' s' m' := by
  cases m with
  | zero => cases h
  | succ m =>
    unfold run at h
    rw [hn] at h
    cases p' with
    | none => exact ⟨0, by omega, (Option.some.inj h).symm⟩
    | some p' => exact ⟨m, by omega, next_pi hp hn, h⟩
theorem first_yes (r n : Nat) (s : S) : ∃ p' s', next r n .choose s = some (p', s') := by
  rw [next_choose]
  split
  · exact ⟨_, _, rfl⟩
  · split
    · exact ⟨_, _, rfl⟩
    · exact ⟨_, _, rfl⟩
set_option maxRecDepth 100000 in
set_option maxHeartbeats 1000000 in
theorem run35_any (base b r n : Nat) (w : World) (s : S) (o : Option S) (k : Nat) (hr : r ≤ 100000) (hn : n ≤ 100000) (hS : Wk 62 b base w s (.int .i64 (s.t : Int))) (hbw : base ≤ w.heap.size) (hp : Base r n s) (ho : run r n k .choose s = some o) :
    Calls Tryz.prog 38 #[.pointer (some ⟨b, 0, none⟩)] w (RunPost b base o w) := by
  have HSTEP : Hid (∀ p s W, Wk 62 b base W s (.int .i64 (s.t : Int)) → base ≤ W.heap.size → PI r n p s → Calls Tryz.prog (stepF p) #[.pointer (some ⟨b, 0, none⟩)] W (NextPost b base r n p s W)) := Lib.hid fun p s W h1 h2 h3 => step_any base b r n W s p hr hn h1 h2 h3
  obtain ⟨p1, s1, hn1⟩ := first_yes r n s
  have HF : Hid (Calls Tryz.prog 55 #[.pointer (some ⟨b, 0, none⟩)] w (StepYes b base p1 s1 w)) := Lib.hid (by
    have h := HSTEP.out .choose s w hS hbw hp
    unfold NextPost at h
    rw [hn1] at h
    exact h)
  obtain ⟨m1, -, hl1⟩ := left_yes (p := .choose) hp ho hn1
  have HL1 := Lib.hid hl1
  have HBW := Lib.hid hbw
  have hneq := neq_step
  have hneq0 := neq_step0
  clear hS hp ho hn1 hl1 hbw
  go_enter_defers Tryz.func38, Tryz.ntmps38
  go_wp2_with (go_at_call 55; (refine HF.out.mono ?_); rintro e w1 ⟨rfl, h1, h2⟩; have H1 := Lib.hid h1; have H2 := Lib.hid h2; clear h1 h2)
  go_loopw [3] (fun z wr => ∃ m, Head b base r n w o m z wr) (fun z wr => leastN fun m => Head b base r n w o m z wr)
  case atStart => exact ⟨m1, p1, s1, rfl, H1.out, H2.out, HL1.out⟩
  case round =>
    obtain ⟨m, hm⟩ := hrel
    have hl := leastN_spec (P := fun m => Head b base r n w o m _ wr) hm
    obtain ⟨p, σ, rfl, hW, hCh, hL⟩ := hl
    clear hm
    have HW := Lib.hid hW
    have HCH := Lib.hid hCh
    clear hW hCh
    rcases p with _ | p
    · have HO : Hid (o = some σ) := Lib.hid hL
      clear hL
      have hst0 : stepV b none = .nilFunc := rfl
      rw [hst0]
      clear hst0
      go_wp2_with fail
      refine leaves_cons (f := 54) (args := #[]) (by simp) (by simp [go_sem]) ?_
      refine (catch55_idle _).mono ?_
      rintro e u' w4 ⟨rfl, rfl, hb4⟩
      exact leave35 _ rfl ⟨HCH.out.trans (Ch.of_below (Nat.le_trans HBW.out HCH.out.size) hb4), by rw [HO.out]; exact ⟨rfl, HW.out.below hb4⟩⟩
    · have hPI := hL.1
      have hRUN := hL.2
      have hst := stepV_some b p
      have hcall := HSTEP.out p σ wr HW.out (Nat.le_trans HBW.out HCH.out.size) hPI
      unfold NextPost at hcall
      cases hnx : next r n p σ with
      | none =>
        rw [hnx] at hcall
        have HC := Lib.hid hcall
        have HO := Lib.hid (left_no hRUN hnx)
        clear hL hPI hRUN hcall hnx
        rw [hst]
        clear hst
        have heg := eg_step p
        generalize stepF p = fp at *
        go_wp2_with (go_at_fn fp; (refine HC.out.mono ?_); rintro e w2 ⟨rfl, h2⟩; have H2 := Lib.hid h2; clear h2)
        refine leaves_cons (f := 54) (args := #[]) (by simp) (by simp [go_sem]) ?_
        refine (catch55_full _).mono ?_
        rintro e u' w4 ⟨rfl, rfl, hb4⟩
        exact leave35 _ rfl ⟨(HCH.out.trans H2.out).trans (Ch.of_below (Nat.le_trans HBW.out (HCH.out.trans H2.out).size) hb4), by rw [HO.out]⟩
      | some x =>
        obtain ⟨p', s'⟩ := x
        rw [hnx] at hcall
        have HC := Lib.hid hcall
        obtain ⟨m', hm', hl'⟩ := left_yes hPI hRUN hnx
        have HL' := Lib.hid hl'
        have HM' := Lib.hid hm'
        clear hL hPI hRUN hcall hnx hl' hm'
        rw [hst] at *
        clear hst
        have heg := eg_step p
        generalize stepF p = fp at *
        go_wp2_with (go_at_fn fp; (refine HC.out.mono ?_); rintro e w2 ⟨rfl, h1, h2⟩; have H1 := Lib.hid h1; have H2 := Lib.hid (HCH.out.trans h2); clear h1 h2)
        go_roundw
        case rel => exact ⟨m', p', s', rfl, H1.out, H2.out, HL'.out⟩
        case measure => exact Nat.lt_of_le_of_lt (leastN_le (P := fun m => Head b base r n w o m _ _) ⟨p', s', rfl, H1.out, H2.out, HL'.out⟩) HM'.out
end Go.Proofs
namespace Go.Proofs
open Go.RowKit Go.Shelf Go.Proofs.Sm
theorem src_ints {t : TypeId} (ht : Tryz.prog.underlying t = some (.slice 3)) {w : World} {v : Value} {y : List Int} (h : IntsAt w v y) : Src Tryz.prog 1 t v y.length (ints y) w := by
  obtain ⟨⟨A, n, cap, rfl, hn, hc, hm, hr⟩, -⟩ := h
  have hl : n = y.length := by simpa [ints] using hn
  subst hl
  rcases Nat.eq_zero_or_pos y.length with h0 | h0
  · obtain rfl : y = [] := List.length_eq_zero_iff.1 h0
    cases A with
    | none => exact Src.ofNil w ht cap
    | some a => exact Src.ofSlice w ht a 0 cap [] rfl (fun j u hu => by simp at hu) (fun u hu => by cases hu)
  · obtain ⟨b, off, rfl, hrow⟩ := hr h0
    exact Src.ofSlice w ht _ _ cap (ints y) (by simp [ints]) (fun j u hu => by rw [Addr.add_lit]; exact hrow j u hu) (fun u hu => by obtain ⟨x, -, rfl⟩ := List.mem_map.1 hu; rfl)
/-- append([]int{}, y...): the copy lies in a block of its own -/
theorem run_copy {t : TypeId} (ht : Tryz.prog.underlying t = some (.slice 3)) {w : World} {v : Value} {y : List Int} (h : IntsAt w v y) (hl : y.length ≤ 1000000) :
    ∃ A cap w', (Builtin.append_ #[t, t] t #[.slice (some ⟨w.heap.size, 0, none⟩) 0 0, v]).run Tryz.prog (w.alloc (.cells #[] 3)) = .ok (.slice A y.length cap) w' ∧
      Below w.heap.size w w' ∧ OwnI w.heap.size w' (.slice A y.length cap) y := by
  obtain ⟨i, hi, hz, hs, hby⟩ := info3p
  have hal : Below w.heap.size w (w.alloc (.cells #[] 3)) := (Below.refl _ _).alloc (Nat.le_refl _) _
  have hnew := heap_alloc_new w (.cells #[] 3)
  have hsz : (w.alloc (.cells #[] 3)).heap.size = w.heap.size + 1 := by simp
  have hsrc := src_ints ht (h.below hal)
  generalize w.alloc (.cells #[] 3) = W at *
  rcases Nat.eq_zero_or_pos y.length with h0 | h0
  · obtain rfl : y = [] := List.length_eq_zero_iff.1 h0
    have := run_append_room_src (P := Tryz.prog) W t t t 3 i ht hi w.heap.size 0 0 0 v 0 [] (by rw [hs]; exact hsrc) (Nat.le_refl _) (fun j hj => absurd hj (by simp)) (fun j hj => absurd hj (by simp))
    exact ⟨_, 0, W, this, hal, rfl, .inr ⟨w.heap.size, 0, #[], rfl, Nat.le_refl _, hnew, Nat.le_refl _, by simp, rfl, rfl⟩⟩
  · have hold : (Builtin.firstCells i.size 0 (.slice (some ⟨w.heap.size, 0, none⟩) 0 0)).run Tryz.prog W.drew = .ok ([] : List Value).toArray W.drew := by
      rw [hs]
      exact run_firstCells_some W.drew 1 0 ⟨w.heap.size, 0, none⟩ 0 0 [] rfl (fun j u hu => by simp at hu)
    have hg := run_append_grow_src (P := Tryz.prog) W t t t 3 i (.int .i64 0) ht hi hz (some ⟨w.heap.size, 0, none⟩) 0 0 [] hold v y.length (ints y) (by rw [hs]; exact hsrc) (by omega) (by omega) (growslice_fits (by omega) (by rw [hby]; omega))
    simp only [Nat.zero_add, List.nil_append] at hg
    have hcm := grownCap_le_maxLen W y.length 0 3 (by unfold maxLen; omega)
    have hcg := grownCap_ge W y.length 0 3
    refine ⟨_, _, _, hg, hal.trans ⟨rfl, rfl, rfl, by simp, fun k hk => (Below.heap_alloc W.drew _ k (by show k < W.heap.size; omega))⟩, by simp [ints], .inr ⟨W.heap.size, _, _, rfl, by omega, heap_alloc_new W.drew _, hcg, hcm, ?_, ?_⟩⟩
    · simp [ints, size_zeroCells, Value.cells]
      omega
    · simp [ints]
theorem eqnil_none (w : World) (n c : Nat) : (binOp .eql 25 (.slice none n c) (.slice none 0 0)).run Tryz.prog w = .ok (.bool true) w := by kernel_rfl
theorem eqnil_some (w : World) (a : Addr) (n c : Nat) : (binOp .eql 25 (.slice (some a) n c) (.slice none 0 0)).run Tryz.prog w = .ok (.bool false) w := by kernel_rfl
set_option maxRecDepth 100000 in
theorem clone34_any (w : World) (v : Value) (xs : List Int) (h : IntsAt w v xs) (hl : xs.length ≤ 1000000) :
    Calls Tryz.prog 37 #[v] w fun e w' => ∃ A c, e = .returned (.slice A xs.length c) ∧ OwnI w.heap.size w' (.slice A xs.length c) xs ∧ Below w.heap.size w w' := by
  obtain ⟨A0, c0, w', hr, hb, ho⟩ := run_copy Tryz.underlying25 h hl
  have HR := Lib.hid hr
  have HB := Lib.hid hb
  have HO := Lib.hid ho
  obtain ⟨A, cap, rfl, hcap, hmax, hc⟩ := h.open_
  cases A with
  | none =>
    have h0 : xs = [] := by
      rcases Nat.eq_zero_or_pos xs.length with h0 | h0
      · exact List.length_eq_zero_iff.1 h0
      · obtain ⟨b, off, hx, -⟩ := hc h0
        cases hx
    clear hr hb ho hc h HR HB HO
    subst h0
    have hq := eqnil_none w
    go_enter Tryz.func37, Tryz.ntmps37
    go_wp2_with fail
    go_ret
    exact ⟨none, 0, rfl, World.ownsRow_nil _ _ _ _, Below.refl _ _⟩
  | some a =>
    clear hr hb ho hc h
    have hq := eqnil_some w
    go_enter Tryz.func37, Tryz.ntmps37
    go_wp2_with ((with_reducible refine wpList_sel 7 ?_); refine wpList_val rfl (r_app (.tmp 5) (.tmp 6) 25 rfl rfl rfl HR.out) ?_)
    go_ret
    exact ⟨_, _, rfl, HO.out, HB.out⟩
/-- the error of the rows of a relation matrix -/
def rowsE (n : Int) : List (List Int) → Int
  | [] => 0
  | x :: l => if (x.length : Int) ≠ n then 3 else if (x.any fun z => !entryB z) = true then 2 else rowsE n l
/-- the error of a relation matrix -/
def checkE (n : Int) (l : List (List Int)) : Int := if n < 1 ∨ 16 < n then 2 else if 100 < l.length then 4 else rowsE n l
theorem rowsE_skip (n : Int) (l : List (List Int)) {k : Nat} (h : ∀ j, j < k → ((l.getD j []).length : Int) = n ∧ ((l.getD j []).any fun z => !entryB z) = false) (hk : k ≤ l.length) : rowsE n l = rowsE n (l.drop k) := by
  induction k with
  | zero => rfl
  | succ k ih =>
    rw [ih (fun j hj => h j (by omega)) (by omega)]
    obtain ⟨h1, h2⟩ := h k (by omega)
    have e : l.drop k = l.getD k [] :: l.drop (k + 1) := by
      rw [List.drop_eq_getElem_cons (by omega : k < l.length), List.getD_eq_getElem?_getD, List.getElem?_eq_getElem (by omega)]; rfl
    rw [e]
    unfold rowsE
    rw [if_neg (fun h => h h1), h2]
    simp only [Bool.false_eq_true, if_false]
    cases l.drop (k + 1) <;> rfl
theorem rowsE_at (n : Int) (l : List (List Int)) {k : Nat} (hk : k < l.length) : rowsE n (l.drop k) = if ((l.getD k []).length : Int) ≠ n then 3 else if ((l.getD k []).any fun z => !entryB z) = true then 2 else rowsE n (l.drop (k + 1)) := by
  have e : l.drop k = l.getD k [] :: l.drop (k + 1) := by
    rw [List.drop_eq_getElem_cons hk, List.getD_eq_getElem?_getD, List.getElem?_eq_getElem hk]; rfl
  rw [e]; rfl
theorem rowsE_end (n : Int) (l : List (List Int)) : rowsE n (l.drop l.length) = 0 := by rw [List.drop_length]; rfl
theorem in64_of {x : List Int} (h : Fits x) : ∀ z ∈ x, In64 z := fun z hz => h z hz
set_option maxRecDepth 100000 in
set_option maxHeartbeats 1000000 in
theorem check15_any (w : World) (n : Int) (v : Value) (l : List (List Int)) (h : Tab w v l) :
    Calls Tryz.prog 35 #[.int .i64 n, v] w fun e w' => e = .returned (.int .i64 (checkE n l)) ∧ ∃ q, w' = w.drewN q := by
  obtain ⟨A0, c0, rfl, hc1, hc2, hc⟩ := h.open_
  by_cases h1 : n < 1
  · have HE : Hid (checkE n l = 2) := Lib.hid (by unfold checkE; rw [if_pos (.inl h1)])
    have hd1 : decide (n < 1) = true := decide_eq_true h1
    clear hc h
    generalize checkE n l = z at *
    go_enter Tryz.func35, Tryz.ntmps35
    go_wp2_with fail
    go_ret
    exact ⟨ret_int HE.out.symm, 0, rfl⟩
  · have hd1 : decide (n < 1) = false := decide_eq_false h1
    by_cases h2 : 16 < n
    · have HE : Hid (checkE n l = 2) := Lib.hid (by unfold checkE; rw [if_pos (.inr h2)])
      have hd2 : decide (16 < n) = true := decide_eq_true h2
      clear hc h
      generalize checkE n l = z at *
      go_enter Tryz.func35, Tryz.ntmps35
      go_wp2_with fail
      go_ret
      exact ⟨ret_int HE.out.symm, 0, rfl⟩
    · have hd2 : decide (16 < n) = false := decide_eq_false h2
      by_cases h3 : 100 < l.length
      · have HE : Hid (checkE n l = 4) := Lib.hid (by unfold checkE; rw [if_neg (by omega), if_pos h3])
        have hd3 : decide ((100 : Int) < (l.length : Int)) = true := decide_eq_true (by omega)
        clear hc h
        generalize checkE n l = z at *
        go_enter Tryz.func35, Tryz.ntmps35
        go_wp2_with fail
        go_ret
        exact ⟨ret_int HE.out.symm, 0, rfl⟩
      · have HE : Hid (checkE n l = rowsE n l) := Lib.hid (by unfold checkE; rw [if_neg (by omega), if_neg h3])
        have hd3 : decide ((100 : Int) < (l.length : Int)) = false := decide_eq_false (by omega)
        have HC := Lib.hid hc
        clear hc h
        generalize checkE n l = z at *
        go_enter Tryz.func35, Tryz.ntmps35
        go_wp2_with fail
        go_loopw [18] (fun i wr => ∃ k : Nat, k ≤ l.length ∧ i = .int .i64 k ∧ Hid (∀ j, j < k → ((l.getD j []).length : Int) = n ∧ ((l.getD j []).any fun z => !entryB z) = false) ∧ ∃ q, wr = w.drewN q) (fun i _ => l.length - (intOf i).toNat)
        case atStart => exact ⟨0, Nat.zero_le _, rfl, Lib.hid (fun j hj => absurd hj (by omega)), 0, rfl⟩
        case round =>
          obtain ⟨k, hk, rfl, HZ, q, rfl⟩ := hrel
          have hk0 : (0 : Int) ≤ (k : Int) := Int.natCast_nonneg _
          by_cases hlt : k < l.length
          · have hlt' : (k : Int) < (l.length : Int) := by omega
            obtain ⟨b, o, rfl, hcc⟩ := HC.out (by omega)
            obtain ⟨u, hu, hI⟩ := hcc k hlt
            obtain ⟨A5, c5, rfl, e1, e2, e3⟩ := hI.open_
            have HSK := Lib.hid (rowsE_skip n l HZ.out (by omega))
            have HAT := Lib.hid (rowsE_at n l hlt)
            have hcall := has41_any 53 #[] In64 (fun x => !entryB x) (w.drewN q) eg42 (pred42 _) _ _ (hI.drewN q) (in64_of hI.2)
            have HZ1 := Lib.hid (fun h => all_succ (p := fun j => ((l.getD j []).length : Int) = n ∧ ((l.getD j []).any fun z => !entryB z) = false) HZ.out (k := k) h)
            clear hcc hI e3
            generalize (l.getD k []).any (fun z => !entryB z) = bb at *
            generalize (l.getD k []).length = m at *
            by_cases hm : (m : Int) = n
            · have hd4 : ((m : Int) != n) = false := by simpa using hm
              cases bb with
              | true =>
                have HR : Hid (rowsE n l = 2) := Lib.hid (by rw [HSK.out, HAT.out, if_neg (fun h => h hm), if_pos rfl])
                have HCALL := Lib.hid hcall
                clear hcall HZ1 hm
                go_wp2_with (go_at_call 52; (refine HCALL.out.mono ?_); rintro e w' ⟨rfl, q', rfl⟩)
                go_ret
                exact ⟨ret_int (by rw [HE.out, HR.out]), by first | exact ⟨_, rfl⟩ | exact ex_drewN⟩
              | false =>
                have HZ2 := Lib.hid (HZ1.out ⟨hm, rfl⟩)
                have HCALL := Lib.hid hcall
                clear hcall HZ1 hm
                go_wp2_with (go_at_call 52; (refine HCALL.out.mono ?_); rintro e w' ⟨rfl, q', rfl⟩)
                go_roundw
                case rel => exact ⟨k + 1, by omega, by go_num, HZ2, by first | exact ⟨_, rfl⟩ | exact ex_drewN⟩
                case measure => simp [intOf]; omega
            · have hd4 : ((m : Int) != n) = true := by simpa using hm
              have HR : Hid (rowsE n l = 3) := Lib.hid (by rw [HSK.out, HAT.out, if_pos hm])
              clear hcall HZ1 hm
              go_wp2_with fail
              go_ret
              exact ⟨ret_int (by rw [HE.out, HR.out]), by first | exact ⟨_, rfl⟩ | exact ex_drewN⟩
          · obtain rfl : k = l.length := by omega
            have HR : Hid (rowsE n l = 0) := Lib.hid (by rw [rowsE_skip n l HZ.out (Nat.le_refl _), rowsE_end])
            go_wp2_with fail
            go_ret
            exact ⟨ret_int (by rw [HE.out, HR.out]), by first | exact ⟨_, rfl⟩ | exact ex_drewN⟩
end Go.Proofs
