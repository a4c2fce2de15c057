/- The contract of Check's fifth check: generator by generator. -/
import Derived.Test.YtnhoiompdjabbaaChk4
namespace Go.Proofs
open Go.RowKit Go.Proofs.Pc

def listsF (bn bp : Nat) : Value := .func (.func 56) #[] #[.pointer (some ⟨bn, 0, none⟩), .pointer (some ⟨bp, 0, none⟩)]

set_option maxRecDepth 100000 in
set_option maxHeartbeats 1000000 in
theorem chk5_any (w : World) (bn bp bl : Nat) (v0 v1 v2 : Value) (P : PcD) (hn : w.cell? ⟨bn, 0, none⟩ = some (.int .i64 P.n)) (hl : w.cell? ⟨bl, 0, none⟩ = some (listsF bn bp))
    (hp0 : w.cell? ⟨bp, 0, none⟩ = some v0) (hp1 : w.cell? ⟨bp, 1, none⟩ = some v1) (hp2 : w.cell? ⟨bp, 2, none⟩ = some v2) (hP : PcAt w v0 v1 v2 P) (h12 : P.n ≤ 12) (hnp : P.powers.length = P.n) (hnc : P.conj.length = P.n) :
    Calls Try.prog 63 #[.pointer (some ⟨bn, 0, none⟩), .pointer (some ⟨bl, 0, none⟩), .pointer (some ⟨bp, 0, none⟩)] w fun e w' => e = .returned (.tuple #[.int .i64 (firstP (genErr P) P.n).1, .int .i64 (firstP (genErr P) P.n).2]) ∧ ∃ q, w' = w.drewN q := by
  have H0 := Lib.hid hP.1
  obtain ⟨A1, c1, rfl, ha1, ha2, ha⟩ := hP.2.1.open_
  obtain ⟨A2, c2, rfl, hb1, hb2, hb⟩ := hP.2.2.open_
  unfold listsF at hl
  have HA := Lib.hid ha
  have HB := Lib.hid hb
  have HNP := Lib.hid hnp
  have HNC := Lib.hid hnc
  clear ha hb hP hnp hnc
  go_enter Try.func63, Try.ntmps63
  go_wp2_with fail
  go_loopw [5, 11] (fun _ i wr => ∃ k : Nat, k ≤ P.n ∧ i = .int .i64 k ∧ firstP (genErr P) k = (0, 0) ∧ ∃ q, wr = w.drewN q) (fun _ i _ => P.n - (intOf i).toNat)
  case atStart => exact ⟨0, Nat.zero_le _, rfl, rfl, 0, rfl⟩
  case round =>
    obtain ⟨k, hk, rfl, hz, q, rfl⟩ := hrel
    have HZ := Lib.hid hz
    clear hz
    by_cases hlt : k < P.n
    · obtain ⟨b1, o1, rfl, hc1⟩ := HA.out (by rw [HNP.out]; omega)
      obtain ⟨b2, o2, rfl, hc2⟩ := HB.out (by rw [HNC.out]; omega)
      obtain ⟨u1, hu1, hr1⟩ := hc1 k (by rw [HNP.out]; omega)
      obtain ⟨u2, hu2, hr2⟩ := hc2 k (by rw [HNC.out]; omega)
      have HR1 : Hid (IntsAt w u1 (P.pow k)) := hr1
      obtain ⟨A3, c3, rfl, hd1, hd2, hd⟩ := hr2.open_
      have HD := Lib.hid hd
      clear hc1 hc2 hr1 hr2 hd
      have hkp : (k : Int) < (P.powers.length : Int) := by rw [HNP.out]; omega
      have hkc : (k : Int) < (P.conj.length : Int) := by rw [HNC.out]; omega
      have hk0 : (0 : Int) ≤ (k : Int) := Int.natCast_nonneg _
      have hge : genErr P k = if listErr P (P.pow k) ((k : Int) + 1) = 0 then (if (P.conj.getD k []).length = k then firstNZ (fun i => listErr P (P.cj k i) ((i : Int) + 1)) k else 3) else listErr P (P.pow k) ((k : Int) + 1) := rfl
      have HGE := Lib.hid hge
      clear hge
      generalize hrow : P.conj.getD k [] = row at *
      have HRow := Lib.hid hrow
      clear hrow
      by_cases hL : listErr P (P.pow k) ((k : Int) + 1) = 0
      · have d1 : (listErr P (P.pow k) ((k : Int) + 1) != 0) = false := by simp [hL]
        have HL := Lib.hid hL
        clear hL
        by_cases hml : row.length = k
        · have d2 : ((row.length : Int) != (k : Int)) = false := by simp; omega
          have d3 : (row.length != k) = false := by simp; omega
          have HM := Lib.hid hml
          have hcje : ∀ i, P.cj k i = row.getD i [] := fun i => by unfold PcD.cj; rw [HRow.out]
          have HCJ := Lib.hid hcje
          clear hml hcje
          go_wp2_with fail
          go_quiet ((go_at_call 56; exact quiet_add_left (lists_any _ bn bp v0 _ P (P.pow k) _ hn hp0 H0.out HR1.out)))
          go_wp2_with fail
          go_loopw [44] (fun i wr => ∃ j : Nat, j ≤ k ∧ i = .int .i64 j ∧ firstNZ (fun i => listErr P (P.cj k i) ((i : Int) + 1)) j = 0 ∧ ∃ q, wr = w.drewN q) (fun i _ => k - (intOf i).toNat)
          case atStart => exact ⟨0, Nat.zero_le _, rfl, rfl, _, rfl⟩
          case round =>
            obtain ⟨j, hj, rfl, hzj, qj, rfl⟩ := hrel
            have HZJ := Lib.hid hzj
            clear hzj
            by_cases hjl : j < k
            · obtain ⟨b3, o3, rfl, hc3⟩ := HD.out (by rw [HM.out]; omega)
              obtain ⟨u3', hu3, hr3⟩ := hc3 j (by rw [HM.out]; omega)
              have HR3 := Lib.hid hr3
              have hjm : (j : Int) < (row.length : Int) := by rw [HM.out]; omega
              have hj0 : (0 : Int) ≤ (j : Int) := Int.natCast_nonneg _
              have hcj : P.cj k j = row.getD j [] := HCJ.out j
              clear hc3 hr3
              generalize row.getD j [] = rj at *
              have HCj := Lib.hid hcj
              clear hcj
              by_cases hE : listErr P rj ((j : Int) + 1) = 0
              · have d4 : (listErr P (rj) ((j : Int) + 1) != 0) = false := by simp [hE]
                have HE := Lib.hid hE
                clear hE
                go_wp2_with (go_at_call 56; (refine (lists_any (w.drewN qj) bn bp v0 _ P rj _ hn hp0 H0.out HR3.out).mono ?_); rintro e w' ⟨rfl, rfl⟩)
                go_roundw
                case rel => exact ⟨j + 1, by omega, by go_num, firstNZ_step HZJ.out (by show listErr P (P.cj k j) _ = 0; rw [HCj.out]; exact HE.out), _, rfl⟩
                case measure => simp [intOf]; omega
              · have d4 : (listErr P (rj) ((j : Int) + 1) != 0) = true := by simp [hE]
                have HE := Lib.hid hE
                clear hE
                go_wp2_with (go_at_call 56; (refine (lists_any (w.drewN qj) bn bp v0 _ P rj _ hn hp0 H0.out HR3.out).mono ?_); rintro e w' ⟨rfl, rfl⟩)
                go_ret2
                have hx : firstNZ (fun i => listErr P (P.cj k i) ((i : Int) + 1)) k = listErr P (rj) ((j : Int) + 1) := by
                  rw [firstNZ_hit HZJ.out (by show listErr P (P.cj k j) _ ≠ 0; rw [HCj.out]; exact HE.out) k hjl]
                  show listErr P (P.cj k j) _ = _
                  rw [HCj.out]
                have hg : genErr P k = listErr P (rj) ((j : Int) + 1) := by rw [HGE.out, if_pos HL.out, if_pos HM.out, hx]
                have hf := firstP_hit HZ.out (by rw [hg]; exact HE.out) P.n hlt
                rw [hf, hg]
                exact ⟨rfl, _, rfl⟩
            · have hjk : j = k := by omega
              subst hjk
              have hge : row.length ≤ j := by rw [HM.out]; exact Nat.le_refl _
              go_wp2_with fail
              go_roundw
              case rel => exact ⟨j + 1, by omega, by go_num, firstP_step HZ.out (by rw [HGE.out, if_pos HL.out, if_pos HM.out, HZJ.out]), _, rfl⟩
              case measure => simp [intOf]; omega
        · have d2 : ((row.length : Int) != (k : Int)) = true := by simp; omega
          have d3 : (row.length != k) = true := by simp; omega
          have HM := Lib.hid hml
          clear hml
          go_wp2_with fail
          go_quiet ((go_at_call 56; exact quiet_add_left (lists_any _ bn bp v0 _ P (P.pow k) _ hn hp0 H0.out HR1.out)))
          go_wp2_with fail
          go_ret2
          have hg : genErr P k = 3 := by rw [HGE.out, if_pos HL.out, if_neg HM.out]
          have hf := firstP_hit HZ.out (by rw [hg]; decide) P.n hlt
          rw [hf, hg]
          exact ⟨rfl, _, rfl⟩
      · have d1 : (listErr P (P.pow k) ((k : Int) + 1) != 0) = true := by simp [hL]
        have HL := Lib.hid hL
        clear hL
        go_wp2_with fail
        go_quiet ((go_at_call 56; exact quiet_add_left (lists_any _ bn bp v0 _ P (P.pow k) _ hn hp0 H0.out HR1.out)))
        go_wp2_with fail
        go_ret2
        have hg : genErr P k = listErr P (P.pow k) ((k : Int) + 1) := by rw [HGE.out, if_neg HL.out]
        have hf := firstP_hit HZ.out (by rw [hg]; exact HL.out) P.n hlt
        rw [hf, hg]
        exact ⟨rfl, _, rfl⟩
    · have hkn : k = P.n := by omega
      subst hkn
      go_wp2_with fail
      go_ret2
      rw [HZ.out]
      exact ⟨rfl, _, rfl⟩
end Go.Proofs
