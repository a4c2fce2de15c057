/- The contracts of collect.normal and cayleyref24.normal. -/
import Derived.Test.YtnhoiompdjabbaaProg
import Derived.Test.YtnhoiompdjabbaaMem
import Derived.Test.YtnhoiompdjabbaaChkM
namespace Go.Proofs
open Go.RowKit Go.Proofs.Pc

theorem below_drewN {B : Nat} {a w : World} (h : Below B a w) (n : Nat) : Below B a (w.drewN n) := ⟨h.os, h.tape, h.output, h.size, h.block⟩

set_option maxHeartbeats 400000 in
theorem normal_any (w : World) (vo vl : Value) (os xs : List Int) (above : Int) (ho : IntsAt w vo os) (hl : IntsAt w vl xs) (hlen : xs.length ≤ os.length) :
    Calls Try.prog 57 #[vo, vl, .int .i64 above] w fun e w' => e = .returned (.bool (normalB os xs above)) ∧ w = w' := by
  obtain ⟨A, ca, rfl, ha1, ha2, ha⟩ := ho.open_
  obtain ⟨B, cb, rfl, hb1, hb2, hb⟩ := hl.open_
  go_enter Try.func57, Try.ntmps57
  go_wp2_with fail
  go_loop [7, 8, 11] (fun s7 s8 i => ∃ k : Nat, k ≤ xs.length ∧ i = .int .i64 k ∧ ∀ j, j < k → normAt os xs above j = true) (fun _ _ i => xs.length - (intOf i).toNat)
  case atStart => exact ⟨0, Nat.zero_le _, rfl, fun j hj => absurd hj (by omega)⟩
  case round =>
    obtain ⟨k, hk, rfl, hall⟩ := hrel
    have HA := Lib.hid hall
    clear hall
    by_cases hlt : k < xs.length
    · obtain ⟨b, off, rfl, hcb⟩ := hb (by omega)
      obtain ⟨b', off', rfl, hca⟩ := ha (by omega)
      have c1 := hcb k hlt
      have c2 := hca k (by omega)
      have HT := Lib.hid (normAt_iff os xs above k)
      have HF := Lib.hid (normAt_iff' os xs above k)
      clear hcb hca
      generalize xs.getD k 0 = x at *
      generalize os.getD k 0 = y at *
      go_wp2_with fail
      all_goals first
        | (go_ret; exact ⟨ret_bool (normalB_false hlt (HF.out.2 (by omega))).symm, rfl⟩)
        | (go_round
           case rel => exact ⟨k + 1, by omega, by go_num, fun j hj => by
             rcases Nat.lt_or_ge j k with h | h
             · exact HA.out j h
             · obtain rfl : j = k := by omega
               exact HT.out.2 (by omega)⟩
           case measure => simp [intOf]; omega)
    · go_wp2_with fail
      go_ret
      have : k = xs.length := by omega
      subst this
      exact ⟨ret_bool (normalB_true HA.out).symm, rfl⟩
theorem normalRef_any (w : World) (vo vp vc vl : Value) (os xs : List Int) (above : Int) (ho : IntsAt w vo os) (hl : IntsAt w vl xs) (hlen : xs.length ≤ os.length) :
    Calls Try.prog 64 #[.agg #[vo, vp, vc], vl, .int .i64 above] w fun e w' => e = .returned (.bool (normalB os xs above)) ∧ Below w.heap.size w w' := by
  obtain ⟨A, ca, rfl, ha1, ha2, ha⟩ := ho.open_
  obtain ⟨B, cb, rfl, hb1, hb2, hb⟩ := hl.open_
  go_enter Try.func64, Try.ntmps64
  go_wp2_with fail
  go_loopw [7] (fun i wr => ∃ k : Nat, k ≤ xs.length ∧ i = .int .i64 k ∧ (∀ j, j < k → normAt os xs above j = true) ∧ wr.cell? ⟨w.heap.size, 0, none⟩ = some (.slice A os.length ca) ∧ Below w.heap.size w wr) (fun i _ => xs.length - (intOf i).toNat)
  case atStart => exact ⟨0, Nat.zero_le _, rfl, fun j hj => absurd hj (by omega), by simp, (Below.refl _ _).alloc (Nat.le_refl _) _⟩
  case round =>
    obtain ⟨k, hk, rfl, hall, hc0, hbel⟩ := hrel
    have HA := Lib.hid hall
    clear hall
    by_cases hlt : k < xs.length
    · obtain ⟨b, off, rfl, hcb⟩ := hb (by omega)
      obtain ⟨b', off', rfl, hca⟩ := ha (by omega)
      have c1 := hcb k hlt
      have c2 := hca k (by omega)
      have c1' := (hbel.cell (p := ⟨b, off + k, none⟩) (World.block_lt_of_cell? w _ c1)).trans c1
      have c2' := (hbel.cell (p := ⟨b', off' + k, none⟩) (World.block_lt_of_cell? w _ c2)).trans c2
      have HT := Lib.hid (normAt_iff os xs above k)
      have HF := Lib.hid (normAt_iff' os xs above k)
      have HB := Lib.hid hbel
      clear hcb hca c1 c2 hbel ha hb ho hl
      generalize xs.getD k 0 = x at *
      generalize os.getD k 0 = y at *
      have hk0 : (0 : Int) ≤ (k : Int) := Int.natCast_nonneg _
      have hk1 : (k : Int) < (xs.length : Int) := by omega
      have hk2 : (k : Int) < (os.length : Int) := by omega
      by_cases h1 : x < 0
      · have d1 : decide (x < 0) = true := by simpa using h1
        go_wp2_with fail
        go_quiet (fail)
        go_wp2_with fail
        go_ret
        exact ⟨ret_bool (normalB_false hlt (HF.out.2 (by omega))).symm, below_drewN HB.out _⟩
      have d1 : decide (x < 0) = false := by simpa using h1
      by_cases h2 : y ≤ x
      · have d2 : decide (y ≤ x) = true := by simpa using h2
        go_wp2_with fail
        go_quiet (fail)
        go_wp2_with fail
        go_ret
        exact ⟨ret_bool (normalB_false hlt (HF.out.2 (by omega))).symm, below_drewN HB.out _⟩
      have d2 : decide (y ≤ x) = false := by simpa using h2
      have rel : normAt os xs above k = true → ∀ j, j < k + 1 → normAt os xs above j = true := fun hx j hj => by
        rcases Nat.lt_or_ge j k with h | h
        · exact HA.out j h
        · obtain rfl : j = k := by omega
          exact hx
      have HR := Lib.hid rel
      clear rel
      by_cases h3 : (k : Int) < above
      · have d3 : decide ((k : Int) < above) = true := by simpa using h3
        by_cases h4 : x = 0
        · have d4 : (x != 0) = false := by simpa using h4
          have HX := Lib.hid h4
          clear h4
          go_wp2_with fail
          go_quiet (fail)
          go_wp2_with fail
          go_roundw
          case rel => exact ⟨k + 1, by omega, by go_num, HR.out (HT.out.2 (by have := HX.out; omega)), by assumption, below_drewN HB.out _⟩
          case measure => simp [intOf]; omega
        · have d4 : (x != 0) = true := by simpa using h4
          go_wp2_with fail
          go_quiet (fail)
          go_wp2_with fail
          go_ret
          exact ⟨ret_bool (normalB_false hlt (HF.out.2 (by omega))).symm, below_drewN HB.out _⟩
      · have d3 : decide ((k : Int) < above) = false := by simpa using h3
        go_wp2_with fail
        go_quiet (fail)
        go_wp2_with fail
        go_roundw
        case rel => exact ⟨k + 1, by omega, by go_num, HR.out (HT.out.2 (by omega)), by assumption, below_drewN HB.out _⟩
        case measure => simp [intOf]; omega
    · go_wp2_with fail
      go_ret
      have : k = xs.length := by omega
      subst this
      exact ⟨ret_bool (normalB_true HA.out).symm, hbel⟩
end Go.Proofs
