/- The contract of collect.Check. -/
import Derived.Test.YtnhoiompdjabbaaChk5
import Derived.Laws.EntriesVeiled
namespace Go.Proofs
open Go.RowKit Go.Proofs.Pc

theorem lenErr_ok {P : PcD} (h : lenErr P = 0) : P.n ≤ 12 ∧ P.powers.length = P.n ∧ P.conj.length = P.n := by
  unfold lenErr at h
  by_cases a : P.n ≤ 12
  · rw [if_pos a] at h
    by_cases b : P.powers.length = P.n ∧ P.conj.length = P.n
    · exact ⟨a, b⟩
    · rw [if_neg b] at h; cases h
  · rw [if_neg a] at h; cases h

def Stage (P : PcD) (k : Nat) : Prop := (1 ≤ k → lenErr P = 0) ∧ (2 ≤ k → firstP (ordErr P) P.n = (0, 0)) ∧ (3 ≤ k → firstNZ (overErr P) P.n = 0) ∧ (4 ≤ k → firstP (genErr P) P.n = (0, 0))
def ChkRel (w : World) (P : PcD) (A0 : Option Addr) (c0 : Nat) (v1 v2 : Value) (k : Nat) (wr : World) : Prop := Stage P k ∧ wr.cell? ⟨w.heap.size, 0, none⟩ = some (.slice A0 P.orders.length c0) ∧ wr.cell? ⟨w.heap.size, 1, none⟩ = some v1 ∧ wr.cell? ⟨w.heap.size, 2, none⟩ = some v2 ∧ wr.cell? ⟨w.heap.size + 1, 0, none⟩ = some (.int .i64 P.n) ∧ wr.cell? ⟨w.heap.size + 1 + 1, 0, none⟩ = some (listsF (w.heap.size + 1) w.heap.size) ∧ (k ≤ 2 → wr.frozen? ⟨w.heap.size + 1 + 1 + 1, 0, none⟩ = false) ∧ (k ≤ 2 → wr.cell? ⟨w.heap.size + 1 + 1 + 1, 0, none⟩ = some (.int .i64 1)) ∧ wr.cell? ⟨w.heap.size + 1 + 1 + 1 + 1, 0, none⟩ = some (.func (.func 58) #[] #[.pointer (some ⟨w.heap.size + 1, 0, none⟩), .pointer (some ⟨w.heap.size, 0, none⟩)]) ∧ wr.cell? ⟨w.heap.size + 1 + 1 + 1 + 1, 1, none⟩ = some (.func (.func 59) #[] #[.pointer (some ⟨w.heap.size, 0, none⟩)]) ∧ wr.cell? ⟨w.heap.size + 1 + 1 + 1 + 1, 2, none⟩ = some (.func (.func 62) #[] #[.pointer (some ⟨w.heap.size, 0, none⟩), .pointer (some ⟨w.heap.size + 1 + 1 + 1, 0, none⟩)]) ∧ wr.cell? ⟨w.heap.size + 1 + 1 + 1 + 1, 3, none⟩ = some (.func (.func 63) #[] #[.pointer (some ⟨w.heap.size + 1, 0, none⟩), .pointer (some ⟨w.heap.size + 1 + 1, 0, none⟩), .pointer (some ⟨w.heap.size, 0, none⟩)]) ∧ Below w.heap.size w wr

set_option maxRecDepth 100000 in
set_option maxHeartbeats 1000000 in
theorem check_any (w : World) (v0 v1 v2 : Value) (P : PcD) (hP : PcAt w v0 v1 v2 P) :
    Calls Try.prog 23 #[.agg #[v0, v1, v2]] w fun e w' => e = .returned (.tuple #[.int .i64 (checkD P).1, .int .i64 (checkD P).2]) ∧ Below w.heap.size w w' := by
  have HP := Lib.hid hP
  obtain ⟨A0, c0, rfl, ha1, ha2, _⟩ := hP.1.open_
  clear hP
  have hmf : ∀ (fn : Fn) (first cap : Array Value) (w : World), (Instr.makeFunc fn first cap).run Try.prog w = .ok (.func fn first cap) w := fun _ _ _ _ => rfl
  go_enter Try.func23, Try.ntmps23
  go_wp2_with fail
  go_loopw [9, 10, 11, 23] (fun _ _ _ i wr => ∃ k : Nat, k ≤ 4 ∧ i = .int .i64 k ∧ ChkRel w P A0 c0 v1 v2 k wr) (fun _ _ _ i _ => 4 - (intOf i).toNat)
  case atStart =>
    refine ⟨0, by omega, rfl, ⟨⟨fun h => absurd h (by omega), fun h => absurd h (by omega), fun h => absurd h (by omega), fun h => absurd h (by omega)⟩, ?_⟩⟩
    refine ⟨by go_simp, by go_simp, by go_simp, by (have e : P.n = P.orders.length := rfl; rw [e]; go_simp), by (unfold listsF; go_simp), fun _ => by go_simp, fun _ => by go_simp, by go_simp, by go_simp, by go_simp, by go_simp, ?_⟩
    exact ((((((Below.refl _ w).alloc (Nat.le_refl _) _).alloc (by simp) _).alloc (by simp; omega) _).alloc (by simp; omega) _).alloc (by simp; omega) _)
  case round =>
    obtain ⟨k, hk, rfl, hst, h0, h1, h2, hn, hl, hf, ho, k0, k1, k2, k3, hb⟩ := hrel
    have HP' := Lib.hid (HP.out.below hb)
    have HS := Lib.hid hst
    have HO := Lib.hid ho
    have HF := Lib.hid hf
    have HN := Lib.hid hn
    have HL := Lib.hid hl
    have HBl := Lib.hid hb
    clear hst ho hf hn hl hb
    have hk4 : k = 0 ∨ k = 1 ∨ k = 2 ∨ k = 3 ∨ k = 4 := by omega
    rcases hk4 with rfl | rfl | rfl | rfl | rfl
    · by_cases hE : lenErr P = 0
      · have d1 : (lenErr P != 0) = false := by simp [hE]
        have HE := Lib.hid hE
        clear hE
        go_wp2_with (go_at_call 58; refine (chk2_any _ _ _ _ v1 v2 P HN.out h1 h2 HP'.out).mono ?_; rintro e w' ⟨rfl, rfl⟩)
        go_roundw
        case rel => exact ⟨1, by omega, by go_num, ⟨fun _ => HE.out, fun h => absurd h (by omega), fun h => absurd h (by omega), fun h => absurd h (by omega)⟩, h0, h1, h2, HN.out, HL.out, fun _ => HF.out (by omega), fun _ => HO.out (by omega), k0, k1, k2, k3, HBl.out⟩
        case measure => simp [intOf]
      · have d1 : (lenErr P != 0) = true := by simp [hE]
        have HE := Lib.hid hE
        clear hE
        go_wp2_with (go_at_call 58; refine (chk2_any _ _ _ _ v1 v2 P HN.out h1 h2 HP'.out).mono ?_; rintro e w' ⟨rfl, rfl⟩)
        go_ret2
        refine ⟨?_, HBl.out⟩
        have hd : checkD P = (lenErr P, 0) := by unfold checkD orElse; rw [if_neg HE.out]
        rw [hd]; rfl
    · by_cases hE : (firstP (ordErr P) P.n).1 = 0
      · have d1 : ((firstP (ordErr P) P.n).1 != 0) = false := by simp [hE]
        have HE := Lib.hid hE
        clear hE
        go_wp2_with (go_at_call 59; refine (chk3_any _ _ _ P h0 HP'.out.1).mono ?_; rintro e w' ⟨rfl, rfl⟩)
        go_roundw
        case rel => exact ⟨2, by omega, by go_num, ⟨fun _ => HS.out.1 (by omega), fun _ => firstP_ok HE.out, fun h => absurd h (by omega), fun h => absurd h (by omega)⟩, h0, h1, h2, HN.out, HL.out, fun _ => HF.out (by omega), fun _ => HO.out (by omega), k0, k1, k2, k3, HBl.out⟩
        case measure => simp [intOf]
      · have d1 : ((firstP (ordErr P) P.n).1 != 0) = true := by simp [hE]
        have HE := Lib.hid hE
        clear hE
        go_wp2_with (go_at_call 59; refine (chk3_any _ _ _ P h0 HP'.out.1).mono ?_; rintro e w' ⟨rfl, rfl⟩)
        go_ret2
        refine ⟨?_, HBl.out⟩
        have hd : checkD P = firstP (ordErr P) P.n := by unfold checkD orElse; rw [if_pos (HS.out.1 (by omega)), if_neg HE.out]
        rw [hd]; rfl
    · by_cases hE : firstNZ (overErr P) P.n = 0
      · have d1 : (firstNZ (overErr P) P.n != 0) = false := by simp [hE]
        have HE := Lib.hid hE
        clear hE
        go_wp2_with (go_at_call 62; refine (chk4_any w _ _ _ _ P h0 HP.out.1 HBl.out (by omega) (by omega) (HO.out (by omega)) (HF.out (by omega)) (fun k hk => firstP_zero (f := ordErr P) (by rw [HS.out.2.1 (by omega)]) k hk)).mono ?_; rintro e w' ⟨rfl, hg⟩)
        go_roundw
        have hgc : ∀ j o, j < 5 → j ≠ 3 → w'.cell? ⟨w.heap.size + j, o, none⟩ = wr.cell? ⟨w.heap.size + j, o, none⟩ := fun j o hj hj3 => World.cell?_of_block (hg.block _ (by have := World.block_lt_of_cell? wr _ k0; simp at this ⊢; omega) (by simp; omega))
        case rel => exact ⟨3, by omega, by go_num, ⟨fun _ => HS.out.1 (by omega), fun _ => HS.out.2.1 (by omega), fun _ => HE.out, fun h => absurd h (by omega)⟩, (hgc 0 0 (by omega) (by omega)).trans h0, (hgc 0 1 (by omega) (by omega)).trans h1, (hgc 0 2 (by omega) (by omega)).trans h2, (hgc 1 0 (by omega) (by omega)).trans HN.out, (hgc 2 0 (by omega) (by omega)).trans HL.out, fun h => absurd h (by omega), fun h => absurd h (by omega), (hgc 4 0 (by omega) (by omega)).trans k0, (hgc 4 1 (by omega) (by omega)).trans k1, (hgc 4 2 (by omega) (by omega)).trans k2, (hgc 4 3 (by omega) (by omega)).trans k3, HBl.out.grown hg HBl.out.size (fun k e => by cases e; omega)⟩
        case measure => simp [intOf]
      · have d1 : (firstNZ (overErr P) P.n != 0) = true := by simp [hE]
        have HE := Lib.hid hE
        clear hE
        go_wp2_with (go_at_call 62; refine (chk4_any w _ _ _ _ P h0 HP.out.1 HBl.out (by omega) (by omega) (HO.out (by omega)) (HF.out (by omega)) (fun k hk => firstP_zero (f := ordErr P) (by rw [HS.out.2.1 (by omega)]) k hk)).mono ?_; rintro e w' ⟨rfl, hg⟩)
        go_ret2
        refine ⟨?_, HBl.out.grown hg HBl.out.size (fun k e => by cases e; omega)⟩
        have hd : checkD P = (firstNZ (overErr P) P.n, 0) := by unfold checkD orElse; rw [if_pos (HS.out.1 (by omega)), HS.out.2.1 (by omega), if_pos rfl, if_neg HE.out]
        rw [hd]; rfl
    · have hvl := lenErr_ok (HS.out.1 (by omega))
      have HV := Lib.hid hvl
      clear hvl
      by_cases hE : (firstP (genErr P) P.n).1 = 0
      · have d1 : ((firstP (genErr P) P.n).1 != 0) = false := by simp [hE]
        have HE := Lib.hid hE
        clear hE
        go_wp2_with (go_at_call 63; refine (chk5_any _ _ _ _ _ v1 v2 P HN.out HL.out h0 h1 h2 HP'.out HV.out.1 HV.out.2.1 HV.out.2.2).mono ?_; rintro e w' ⟨rfl, q, rfl⟩)
        go_roundw
        case rel => exact ⟨4, by omega, by go_num, ⟨fun _ => HS.out.1 (by omega), fun _ => HS.out.2.1 (by omega), fun _ => HS.out.2.2.1 (by omega), fun _ => firstP_ok HE.out⟩, h0, h1, h2, HN.out, HL.out, fun h => absurd h (by omega), fun h => absurd h (by omega), k0, k1, k2, k3, below_drewN HBl.out _⟩
        case measure => simp [intOf]
      · have d1 : ((firstP (genErr P) P.n).1 != 0) = true := by simp [hE]
        have HE := Lib.hid hE
        clear hE
        go_wp2_with (go_at_call 63; refine (chk5_any _ _ _ _ _ v1 v2 P HN.out HL.out h0 h1 h2 HP'.out HV.out.1 HV.out.2.1 HV.out.2.2).mono ?_; rintro e w' ⟨rfl, q, rfl⟩)
        go_ret2
        refine ⟨?_, below_drewN HBl.out _⟩
        have hd : checkD P = firstP (genErr P) P.n := by unfold checkD orElse; rw [if_pos (HS.out.1 (by omega)), HS.out.2.1 (by omega), if_pos rfl, if_pos (HS.out.2.2.1 (by omega))]
        rw [hd]; rfl
    · have hd : checkD P = (0, 0) := by unfold checkD orElse; rw [if_pos (HS.out.1 (by omega)), HS.out.2.1 (by omega), if_pos rfl, if_pos (HS.out.2.2.1 (by omega)), HS.out.2.2.2 (by omega)]
      have HD := Lib.hid hd
      clear hd
      go_wp2_with fail
      go_ret2
      rw [HD.out]
      exact ⟨rfl, HBl.out⟩
end Go.Proofs
