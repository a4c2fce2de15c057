/- The law's vast and heavy end, with some answer. -/
import Derived.Test.YtnhoiompdjabbaaR4
namespace Go.Proofs
open Go.RowKit Go.Proofs.Pc

def SomeB (w : World) (e : Ending) (w' : World) : Prop := (∃ b : Bool, e = .returned (.bool b)) ∧ Below w.heap.size w w'

set_option maxRecDepth 100000 in
set_option maxHeartbeats 1000000 in
theorem vast_any (w : World) (v0 v1 v2 : Value) (P : PcD) (hP : PcAt w v0 v1 v2 P) : Calls Try.prog 11 #[.agg #[v0, v1, v2]] w (SomeB w) := by
  obtain ⟨A0, c0, rfl, h01, h02, hr0⟩ := hP.1.open_
  obtain ⟨A1, c1, rfl, h11, h12, hr1⟩ := hP.2.1.open_
  obtain ⟨A2, c2, rfl, h21, h22, hr2⟩ := hP.2.2.open_
  have HD := Lib.hid (show Bc w (.slice A0 P.orders.length c0) (.slice A1 P.powers.length c1) (.slice A2 P.conj.length c2) (w.alloc (.cells #[.slice A0 P.orders.length c0, .slice A1 P.powers.length c1, .slice A2 P.conj.length c2] 26)) from ⟨(Below.refl _ _).alloc (Nat.le_refl _) _, heap_alloc_new w _⟩)
  have HP := Lib.hid hP
  clear hr0 hr1 hr2 hP
  by_cases hbig : P.orders.length > 15 ∨ P.powers.length > 15 ∨ P.conj.length > 15
  · rcases hbig with h | h | h
    · have d : decide ((15 : Int) < (P.orders.length : Int)) = true := by simp; omega
      go_enter Try.func11, Try.ntmps11
      go_wp2_with fail
      go_ret
      exact ⟨⟨_, rfl⟩, HD.out.below⟩
    · by_cases h' : P.orders.length > 15
      · have d : decide ((15 : Int) < (P.orders.length : Int)) = true := by simp; omega
        go_enter Try.func11, Try.ntmps11
        go_wp2_with fail
        go_ret
        exact ⟨⟨_, rfl⟩, HD.out.below⟩
      · have d' : decide ((15 : Int) < (P.orders.length : Int)) = false := by simp; omega
        have d : decide ((15 : Int) < (P.powers.length : Int)) = true := by simp; omega
        go_enter Try.func11, Try.ntmps11
        go_wp2_with fail
        go_ret
        exact ⟨⟨_, rfl⟩, HD.out.below⟩
    · by_cases h' : P.orders.length > 15
      · have d : decide ((15 : Int) < (P.orders.length : Int)) = true := by simp; omega
        go_enter Try.func11, Try.ntmps11
        go_wp2_with fail
        go_ret
        exact ⟨⟨_, rfl⟩, HD.out.below⟩
      · have d' : decide ((15 : Int) < (P.orders.length : Int)) = false := by simp; omega
        by_cases h'' : P.powers.length > 15
        · have d : decide ((15 : Int) < (P.powers.length : Int)) = true := by simp; omega
          go_enter Try.func11, Try.ntmps11
          go_wp2_with fail
          go_ret
          exact ⟨⟨_, rfl⟩, HD.out.below⟩
        · have d'' : decide ((15 : Int) < (P.powers.length : Int)) = false := by simp; omega
          have d : decide ((15 : Int) < (P.conj.length : Int)) = true := by simp; omega
          go_enter Try.func11, Try.ntmps11
          go_wp2_with fail
          go_ret
          exact ⟨⟨_, rfl⟩, HD.out.below⟩
  have e0 : decide ((15 : Int) < (P.orders.length : Int)) = false := by simp; omega
  have e1 : decide ((15 : Int) < (P.powers.length : Int)) = false := by simp; omega
  have e2 : decide ((15 : Int) < (P.conj.length : Int)) = false := by simp; omega
  go_enter Try.func11, Try.ntmps11
  go_wp2_with fail
  generalize w.alloc (.cells #[.slice A0 P.orders.length c0, .slice A1 P.powers.length c1, .slice A2 P.conj.length c2] 26) = W at *
  have k1 := HD.out.c1
  have k2 := HD.out.c2
  have HPW := Lib.hid (HP.out.below HD.out.below)
  go_loop [3] (fun s => ∃ k : Nat, k ≤ P.powers.length ∧ s = .int .i64 k) (fun s => P.powers.length - (intOf s).toNat)
  case atStart => exact ⟨0, Nat.zero_le _, rfl⟩
  case round =>
    obtain ⟨k, hk, rfl⟩ := hrel
    by_cases hlt : k < P.powers.length
    · obtain ⟨b, o, A, cc, rfl, hc, hI⟩ := pow_cell' HPW.out hlt
      have hk0 : (0 : Int) ≤ (k : Int) := Int.natCast_nonneg _
      have hk1 : (k : Int) < (P.powers.length : Int) := by omega
      clear hI
      by_cases hl : (P.pow k).length > 15
      · have d : decide ((15 : Int) < ((P.pow k).length : Int)) = true := by simp; omega
        go_wp2_with fail
        go_ret
        exact ⟨⟨_, rfl⟩, HD.out.below⟩
      · have d : decide ((15 : Int) < ((P.pow k).length : Int)) = false := by simp; omega
        go_wp2_with fail
        go_round
        case rel => exact ⟨k + 1, by omega, by go_num⟩
        case measure => simp [intOf]; omega
    · obtain rfl : k = P.powers.length := by omega
      go_wp2_with fail
      go_loop [4] (fun s => ∃ k : Nat, k ≤ P.conj.length ∧ s = .int .i64 k) (fun s => P.conj.length - (intOf s).toNat)
      case atStart => exact ⟨0, Nat.zero_le _, rfl⟩
      case round =>
        obtain ⟨k, hk, rfl⟩ := hrel
        by_cases hlt : k < P.conj.length
        · obtain ⟨b, o, A, cc, rfl, hc, hc1, hc2, hT⟩ := conj_row' HPW.out hlt
          have hk0 : (0 : Int) ≤ (k : Int) := Int.natCast_nonneg _
          have hk1 : (k : Int) < (P.conj.length : Int) := by omega
          generalize P.conj.getD k [] = row at *
          have HT := Lib.hid hT
          clear hT
          by_cases hl : row.length > 15
          · have d : decide ((15 : Int) < (row.length : Int)) = true := by simp; omega
            go_wp2_with fail
            go_ret
            exact ⟨⟨_, rfl⟩, HD.out.below⟩
          · have d : decide ((15 : Int) < (row.length : Int)) = false := by simp; omega
            go_wp2_with fail
            go_loop [5] (fun s => ∃ j : Nat, j ≤ row.length ∧ s = .int .i64 j) (fun s => row.length - (intOf s).toNat)
            case atStart => exact ⟨0, Nat.zero_le _, rfl⟩
            case round =>
              obtain ⟨j, hj, rfl⟩ := hrel
              by_cases hjl : j < row.length
              · obtain ⟨b3, o3, A3, c3, rfl, hcj, hIj⟩ := row_cell' HT.out hjl
                have hj0 : (0 : Int) ≤ (j : Int) := Int.natCast_nonneg _
                have hj1 : (j : Int) < (row.length : Int) := by omega
                clear hIj
                generalize row.getD j [] = rj at *
                by_cases hl2 : rj.length > 15
                · have d2 : decide ((15 : Int) < (rj.length : Int)) = true := by simp; omega
                  go_wp2_with fail
                  go_ret
                  exact ⟨⟨_, rfl⟩, HD.out.below⟩
                · have d2 : decide ((15 : Int) < (rj.length : Int)) = false := by simp; omega
                  go_wp2_with fail
                  go_round
                  case rel => exact ⟨j + 1, by omega, by go_num⟩
                  case measure => simp [intOf]; omega
              · obtain rfl : j = row.length := by omega
                go_wp2_with fail
                go_round
                case rel => exact ⟨k + 1, by omega, by go_num⟩
                case measure => simp [intOf]; omega
        · obtain rfl : k = P.conj.length := by omega
          go_wp2_with fail
          go_ret
          exact ⟨⟨_, rfl⟩, HD.out.below⟩

set_option maxRecDepth 100000 in
set_option maxHeartbeats 1000000 in
theorem heavy_any (w : World) (v0 v1 v2 : Value) (P : PcD) (hP : PcAt w v0 v1 v2 P) : Calls Try.prog 12 #[.agg #[v0, v1, v2]] w (SomeB w) := by
  obtain ⟨A0, c0, rfl, h01, h02, hr0⟩ := hP.1.open_
  obtain ⟨A1, c1, rfl, h11, h12, hr1⟩ := hP.2.1.open_
  obtain ⟨A2, c2, rfl, h21, h22, hr2⟩ := hP.2.2.open_
  have HD := Lib.hid (show Bc w (.slice A0 P.orders.length c0) (.slice A1 P.powers.length c1) (.slice A2 P.conj.length c2) (w.alloc (.cells #[.slice A0 P.orders.length c0, .slice A1 P.powers.length c1, .slice A2 P.conj.length c2] 26)) from ⟨(Below.refl _ _).alloc (Nat.le_refl _) _, heap_alloc_new w _⟩)
  have HR0 := Lib.hid hr0
  clear hr0 hr1 hr2 hP
  go_enter Try.func12, Try.ntmps12
  go_wp2_with fail
  generalize w.alloc (.cells #[.slice A0 P.orders.length c0, .slice A1 P.powers.length c1, .slice A2 P.conj.length c2] 26) = W at *
  have k0 := HD.out.c0
  go_loop [3, 4] (fun t s => ∃ (k : Nat) (n : Int), k ≤ P.orders.length ∧ k ≤ 5 ∧ s = .int .i64 k ∧ t = .int .i64 n ∧ 0 ≤ n ∧ n ≤ 400) (fun _ s => 5 - (intOf s).toNat)
  case atStart => exact ⟨0, 1, Nat.zero_le _, by omega, rfl, rfl, by omega, by omega⟩
  case round =>
    obtain ⟨k, n, hk, hk5, rfl, rfl, hn0, hn1⟩ := hrel
    have hk0 : (0 : Int) ≤ (k : Int) := Int.natCast_nonneg _
    by_cases hlt : k < P.orders.length ∧ k < 5
    · obtain ⟨b0, o0, rfl, hc⟩ := HR0.out (by omega)
      have hck : W.cell? ⟨b0, o0 + k, none⟩ = some (.int .i64 (P.orders.getD k 0)) := (KC.of_below HD.out.below).cell (hc k hlt.1)
      have hkn : (k : Int) < (P.orders.length : Int) := by omega
      have e1 : decide ((k : Int) < (P.orders.length : Int)) = true := by simp; omega
      have e1' : decide (k < P.orders.length) = true := by simp; omega
      have e2 : decide ((k : Int) < 5) = true := by simp; omega
      have e2' : decide (k < 5) = true := by simp; omega
      clear hc
      generalize P.orders.getD k 0 = x at *
      by_cases h2 : x < 2
      · have d : decide (x < 2) = true := by simpa using h2
        go_wp2_with fail
        go_ret
        exact ⟨⟨_, rfl⟩, HD.out.below⟩
      · have d : decide (x < 2) = false := by simpa using h2
        by_cases h3 : 1000 < x
        · have d2 : decide (1000 < x) = true := by simpa using h3
          go_wp2_with fail
          go_ret
          exact ⟨⟨_, rfl⟩, HD.out.below⟩
        · have d2 : decide (1000 < x) = false := by simpa using h3
          have hm1 : n * x ≤ 400 * 1000 := Int.mul_le_mul hn1 (by omega) (by omega) (by omega)
          have hm2 : 0 ≤ n * x := Int.mul_nonneg hn0 (by omega)
          have hmw : IntKind.i64.wrap (n * x) = n * x := IntWalk.i64_in _ (by omega)
          by_cases h4 : 400 < n * x
          · have d3 : decide (400 < n * x) = true := by simpa using h4
            go_wp2_with fail
            go_ret
            exact ⟨⟨_, rfl⟩, HD.out.below⟩
          · have d3 : decide (400 < n * x) = false := by simpa using h4
            go_wp2_with fail
            go_round
            case rel => exact ⟨k + 1, n * x, by omega, by omega, by go_num, rfl, hm2, by omega⟩
            case measure => simp [intOf]; omega
    · by_cases hl2 : k < P.orders.length
      · have e1 : decide ((k : Int) < (P.orders.length : Int)) = true := by simp; omega
        have e1' : decide (k < P.orders.length) = true := by simp; omega
        have e2 : decide ((k : Int) < 5) = false := by simp; omega
        have e2' : decide (k < 5) = false := by simp; omega
        go_wp2_with fail
        go_ret
        exact ⟨⟨_, rfl⟩, HD.out.below⟩
      · have e1 : decide ((k : Int) < (P.orders.length : Int)) = false := by simp; omega
        have e1' : decide (k < P.orders.length) = false := by simp; omega
        go_wp2_with fail
        go_ret
        exact ⟨⟨_, rfl⟩, HD.out.below⟩
end Go.Proofs
