/- The contract of the law's same. -/
import Derived.Test.YtnhoiompdjabbaaSm
import Derived.Test.YtnhoiompdjabbaaChk4
namespace Go.Proofs
open Go.RowKit Go.Proofs.Pc

def sameB (P Q : PcD) : Bool := decide (P.orders = Q.orders) && decide (P.powers = Q.powers) && decide (P.conj = Q.conj)
theorem sameB_iff {P Q : PcD} : sameB P Q = true ↔ P = Q := by
  cases P; cases Q
  simp [sameB, and_assoc]

/-- two boxes of three values lie behind w -/
structure Two (w : World) (a0 a1 a2 b0 b1 b2 : Value) (wr : World) : Prop where
  c0 : wr.cell? ⟨w.heap.size, 0, none⟩ = some a0
  c1 : wr.cell? ⟨w.heap.size, 1, none⟩ = some a1
  c2 : wr.cell? ⟨w.heap.size, 2, none⟩ = some a2
  d0 : wr.cell? ⟨w.heap.size + 1, 0, none⟩ = some b0
  d1 : wr.cell? ⟨w.heap.size + 1, 1, none⟩ = some b1
  d2 : wr.cell? ⟨w.heap.size + 1, 2, none⟩ = some b2
  below : Below w.heap.size w wr
theorem Two.new (w : World) (a0 a1 a2 b0 b1 b2 : Value) : Two w a0 a1 a2 b0 b1 b2 ((w.alloc (.cells #[a0, a1, a2] 26)).alloc (.cells #[b0, b1, b2] 26)) := by
  have hb : Below (w.heap.size + 1) (w.alloc (.cells #[a0, a1, a2] 26)) ((w.alloc (.cells #[a0, a1, a2] 26)).alloc (.cells #[b0, b1, b2] 26)) := (Below.refl _ _).alloc (by simp) _
  have h1 : ∀ j, ((w.alloc (.cells #[a0, a1, a2] 26)).alloc (.cells #[b0, b1, b2] 26)).cell? ⟨w.heap.size, j, none⟩ = #[a0, a1, a2][j]? := fun j => (hb.cell (p := ⟨w.heap.size, j, none⟩) (by simp)).trans (cell_of_row _ _ _ _ _ _ (heap_alloc_new w _))
  have h2 : ∀ j, ((w.alloc (.cells #[a0, a1, a2] 26)).alloc (.cells #[b0, b1, b2] 26)).cell? ⟨w.heap.size + 1, j, none⟩ = #[b0, b1, b2][j]? := fun j => by
    have := cell_of_row _ _ j _ _ _ (heap_alloc_new (w.alloc (.cells #[a0, a1, a2] 26)) (.cells #[b0, b1, b2] 26))
    rwa [World.size_alloc] at this
  exact ⟨h1 0, h1 1, h1 2, h2 0, h2 1, h2 2, ((Below.refl _ _).alloc (Nat.le_refl _) _).alloc (by simp) _⟩
theorem Two.step {w wr w' : World} {a0 a1 a2 b0 b1 b2 : Value} (h : Two w a0 a1 a2 b0 b1 b2 wr) (hb : Below wr.heap.size wr w') : Two w a0 a1 a2 b0 b1 b2 w' := by
  have hk : ∀ {b j : Nat} {v : Value}, wr.cell? ⟨b, j, none⟩ = some v → w'.cell? ⟨b, j, none⟩ = some v := fun {b j v} hc => (hb.cell (p := ⟨b, j, none⟩) (World.block_lt_of_cell? wr _ hc)).trans hc
  exact ⟨hk h.c0, hk h.c1, hk h.c2, hk h.d0, hk h.d1, hk h.d2, h.below.trans (hb.mono h.below.size)⟩

theorem equal_yes (w : World) (va vb : Value) (xs ys : List Int) (ha : IntsAt w va xs) (hb : IntsAt w vb ys) (h : xs = ys) :
    Calls Try.prog 31 #[va, vb] w fun e w' => e = .returned (.bool true) ∧ Below w.heap.size w w' := (equal_any w va vb xs ys ha hb).mono fun _ _ ⟨he, hb⟩ => ⟨by rw [he]; simp [h], hb⟩
theorem equal_no (w : World) (va vb : Value) (xs ys : List Int) (ha : IntsAt w va xs) (hb : IntsAt w vb ys) (h : xs ≠ ys) :
    Calls Try.prog 31 #[va, vb] w fun e w' => e = .returned (.bool false) ∧ Below w.heap.size w w' := (equal_any w va vb xs ys ha hb).mono fun _ _ ⟨he, hb⟩ => ⟨by rw [he]; simp [h], hb⟩
theorem same18_yes (w : World) (va vb : Value) (A B : List (List Int)) (ha : Tab w va A) (hb : Tab w vb B) (h : A = B) :
    Calls Try.prog 55 #[va, vb] w fun e w' => e = .returned (.bool true) ∧ ∃ q, w' = w.drewN q := (same18_any w va vb A B ha hb).mono fun _ _ ⟨he, hb⟩ => ⟨by rw [he]; simp [h], hb⟩
theorem same18_no (w : World) (va vb : Value) (A B : List (List Int)) (ha : Tab w va A) (hb : Tab w vb B) (h : A ≠ B) :
    Calls Try.prog 55 #[va, vb] w fun e w' => e = .returned (.bool false) ∧ ∃ q, w' = w.drewN q := (same18_any w va vb A B ha hb).mono fun _ _ ⟨he, hb⟩ => ⟨by rw [he]; simp [h], hb⟩
theorem same18_left {w : World} {va vb : Value} {A B : List (List Int)} {b : Bool} (a n : Nat) (ha : Tab w va A) (hb : Tab w vb B) (h : decide (A = B) = b) :
    Calls Try.prog 55 #[va, vb] (w.drewN (a + n)) fun e w'' => e = .returned (.bool b) ∧ ∃ m, w'' = w.drewN (a + m) :=
  (same18_any (w.drewN (a + n)) va vb A B (Kept.below kept_tab ha (below_drewN (Below.refl _ _) _)) (Kept.below kept_tab hb (below_drewN (Below.refl _ _) _))).mono fun _ _ ⟨he, q, hq⟩ => ⟨by rw [he, h], n + q, by rw [hq, World.drewN_drewN, Nat.add_assoc]⟩
theorem Two.drewN {w wr : World} {a0 a1 a2 b0 b1 b2 : Value} (h : Two w a0 a1 a2 b0 b1 b2 wr) (q : Nat) : Two w a0 a1 a2 b0 b1 b2 (wr.drewN q) := h.step (below_drewN (Below.refl _ _) q)

set_option maxRecDepth 100000 in
set_option maxHeartbeats 1000000 in
theorem same_any (w : World) (a0 a1 a2 b0 b1 b2 : Value) (P Q : PcD) (hP : PcAt w a0 a1 a2 P) (hQ : PcAt w b0 b1 b2 Q) :
    Calls Try.prog 20 #[.agg #[a0, a1, a2], .agg #[b0, b1, b2]] w fun e w' => e = .returned (.bool (sameB P Q)) ∧ Below w.heap.size w w' := by
  have HP0 := Lib.hid hP.1
  have HQ0 := Lib.hid hQ.1
  have HP1 := Lib.hid hP.2.1
  have HQ1 := Lib.hid hQ.2.1
  obtain ⟨A0, n0, rfl, -⟩ := hP.1.open_
  obtain ⟨A1, n1, rfl, -⟩ := hP.2.1.open_
  obtain ⟨A2, n2, rfl, ha1, ha2, ha⟩ := hP.2.2.open_
  obtain ⟨B0, m0, rfl, -⟩ := hQ.1.open_
  obtain ⟨B1, m1, rfl, -⟩ := hQ.2.1.open_
  obtain ⟨B2, m2, rfl, hb1, hb2, hb⟩ := hQ.2.2.open_
  have HA := Lib.hid ha
  have HB := Lib.hid hb
  clear hP hQ ha hb
  have HT := Lib.hid (Two.new w (.slice A0 P.orders.length n0) (.slice A1 P.powers.length n1) (.slice A2 P.conj.length n2) (.slice B0 Q.orders.length m0) (.slice B1 Q.powers.length m1) (.slice B2 Q.conj.length m2))
  by_cases h0 : P.orders = Q.orders
  · have H0 := Lib.hid h0
    clear h0
    by_cases h1 : P.powers = Q.powers
    · have H1 := Lib.hid h1
      clear h1
      by_cases h2 : P.conj.length = Q.conj.length
      · have d1 : ((P.conj.length : Int) != (Q.conj.length : Int)) = false := by simp; omega
        have d2 : (P.conj.length != Q.conj.length) = false := by simp; omega
        have H2 := Lib.hid h2
        clear h2
        go_enter Try.func20, Try.ntmps20
        go_wp2_with (first
          | (go_at_call 31; (with_reducible refine (equal_yes _ _ _ P.orders Q.orders (HP0.out.below HT.out.below) (HQ0.out.below HT.out.below) H0.out).mono ?_); rintro e w1 ⟨rfl, hb1⟩; have T1 := HT.out.step hb1; have c1 := T1.c1; have e1 := T1.d1; have HT1 := Lib.hid T1; clear T1 hb1)
          | (go_at_call 55; (with_reducible refine (same18_yes _ _ _ P.powers Q.powers (kept_tab.below HP1.out HT1.out.below) (kept_tab.below HQ1.out HT1.out.below) H1.out).mono ?_); rintro e w2 ⟨rfl, q, rfl⟩; have c2 := HT1.out.c2; have e2 := HT1.out.d2))
        go_loopw [5] (fun i wr => ∃ k : Nat, k ≤ P.conj.length ∧ i = .int .i64 k ∧ (∀ j, j < k → P.conj.getD j [] = Q.conj.getD j []) ∧ ∃ q, wr = w1.drewN q) (fun i _ => P.conj.length - (intOf i).toNat)
        case atStart => exact ⟨0, Nat.zero_le _, rfl, fun j hj => absurd hj (by omega), _, rfl⟩
        case round =>
          obtain ⟨k, hk, rfl, hz, qk, rfl⟩ := hrel
          have HZ := Lib.hid hz
          clear hz
          by_cases hlt : k < P.conj.length
          · obtain ⟨b1, o1, rfl, hc1⟩ := HA.out (by omega)
            obtain ⟨b2, o2, rfl, hc2⟩ := HB.out (by rw [← H2.out]; omega)
            obtain ⟨u1, hu1, hr1⟩ := hc1 k hlt
            obtain ⟨u2, hu2, hr2⟩ := hc2 k (by rw [← H2.out]; omega)
            have hv1 : w1.cell? ⟨b1, o1 + k, none⟩ = some u1 := (HT1.out.below.cell (p := ⟨b1, o1 + k, none⟩) (World.block_lt_of_cell? w _ hu1)).trans hu1
            have hv2 : w1.cell? ⟨b2, o2 + k, none⟩ = some u2 := (HT1.out.below.cell (p := ⟨b2, o2 + k, none⟩) (World.block_lt_of_cell? w _ hu2)).trans hu2
            have HR1 := Lib.hid (kept_tab.below hr1 HT1.out.below)
            have HR2 := Lib.hid (kept_tab.below hr2 HT1.out.below)
            have hk0 : (0 : Int) ≤ (k : Int) := Int.natCast_nonneg _
            have hkb : (k : Int) < (Q.conj.length : Int) := by rw [← H2.out]; omega
            have hka : (k : Int) < (P.conj.length : Int) := by omega
            have HN := Lib.hid (fun h => getD_ne (A := P.conj) (B := Q.conj) (d := []) (k := k) h)
            clear hc1 hc2 hu1 hu2 hr1 hr2
            generalize hxe : P.conj.getD k [] = x at *
            generalize hye : Q.conj.getD k [] = y at *
            have HXE := Lib.hid hxe
            have HYE := Lib.hid hye
            clear hxe hye
            by_cases hxy : x = y
            · have HX := Lib.hid hxy
              clear hxy
              go_wp2_with fail
              go_quiet ((go_at_call 55; exact same18_left (b := true) _ _ HR1.out HR2.out (by simp [HX.out])))
              go_wp2_with fail
              go_roundw
              case rel => exact ⟨k + 1, by omega, by go_num, all_succ HZ.out (by rw [HXE.out, HYE.out]; exact HX.out), by first | exact ⟨_, rfl⟩ | exact ex_drewN⟩
              case measure => simp [intOf]; omega
            · have HX := Lib.hid hxy
              clear hxy
              go_wp2_with fail
              go_quiet ((go_at_call 55; exact same18_left (b := false) _ _ HR1.out HR2.out (by simp [HX.out])))
              go_wp2_with fail
              go_ret
              exact ⟨ret_bool (by have := HN.out HX.out; simp [sameB, this]), by first | exact below_drewN HT1.out.below _ | exact below_drewN (below_drewN HT1.out.below _) _⟩
          · obtain rfl : k = P.conj.length := by omega
            go_wp2_with fail
            go_ret
            exact ⟨ret_bool (by have := getD_ext H2.out HZ.out; simp [sameB, this, H0.out, H1.out]), below_drewN HT1.out.below _⟩
      · have d1 : ((P.conj.length : Int) != (Q.conj.length : Int)) = true := by simp; omega
        have d2 : (P.conj.length != Q.conj.length) = true := by simp; omega
        have H2 := Lib.hid h2
        clear h2
        go_enter Try.func20, Try.ntmps20
        go_wp2_with (first
          | (go_at_call 31; (with_reducible refine (equal_yes _ _ _ P.orders Q.orders (HP0.out.below HT.out.below) (HQ0.out.below HT.out.below) H0.out).mono ?_); rintro e w1 ⟨rfl, hb1⟩; have T1 := HT.out.step hb1; have c1 := T1.c1; have e1 := T1.d1; have HT1 := Lib.hid T1; clear T1 hb1)
          | (go_at_call 55; (with_reducible refine (same18_yes _ _ _ P.powers Q.powers (kept_tab.below HP1.out HT1.out.below) (kept_tab.below HQ1.out HT1.out.below) H1.out).mono ?_); rintro e w2 ⟨rfl, q, rfl⟩; have c2 := HT1.out.c2; have e2 := HT1.out.d2))
        go_ret
        exact ⟨ret_bool (by have : P.conj ≠ Q.conj := fun e => H2.out (by rw [e]); simp [sameB, this]), below_drewN HT1.out.below _⟩
    · have H1 := Lib.hid h1
      clear h1
      go_enter Try.func20, Try.ntmps20
      go_wp2_with (first
        | (go_at_call 31; (with_reducible refine (equal_yes _ _ _ P.orders Q.orders (HP0.out.below HT.out.below) (HQ0.out.below HT.out.below) H0.out).mono ?_); rintro e w1 ⟨rfl, hb1⟩; have T1 := HT.out.step hb1; have c1 := T1.c1; have e1 := T1.d1; have HT1 := Lib.hid T1; clear T1 hb1)
        | (go_at_call 55; (with_reducible refine (same18_no _ _ _ P.powers Q.powers (kept_tab.below HP1.out HT1.out.below) (kept_tab.below HQ1.out HT1.out.below) H1.out).mono ?_); rintro e w2 ⟨rfl, q, rfl⟩))
      go_ret
      exact ⟨ret_bool (by simp [sameB, H1.out]), below_drewN HT1.out.below _⟩
  · have H0 := Lib.hid h0
    clear h0
    go_enter Try.func20, Try.ntmps20
    go_wp2_with (first
      | (go_at_call 31; (with_reducible refine (equal_no _ _ _ P.orders Q.orders (HP0.out.below HT.out.below) (HQ0.out.below HT.out.below) H0.out).mono ?_); rintro e w1 ⟨rfl, hb1⟩; have HT1 := Lib.hid (HT.out.step hb1); clear hb1))
    go_ret
    exact ⟨ret_bool (by simp [sameB, H0.out]), HT1.out.below⟩
end Go.Proofs
