/- The contract of Check's fourth check: the product of the orders. -/
import Derived.Test.YtnhoiompdjabbaaChk
import Derived.Test.YtnhoiompdjabbaaColl
namespace Go.Proofs
open Go.RowKit Go.Proofs.Pc

theorem prod_pos {P : PcD} (ho : ∀ k, k < P.n → ordErr P k = 0) : ∀ k, k ≤ P.n → 1 ≤ prod P k
  | 0, _ => by simp [prod, foldTo]
  | k + 1, h => by
    have ih := prod_pos ho k (by omega)
    have h1 := ho k (by omega)
    have h2 : 2 ≤ P.ord k := by
      unfold ordErr at h1
      by_cases hc : 2 ≤ P.ord k ∧ P.ord k ≤ 1000
      · exact hc.1
      · rw [if_neg hc] at h1; cases h1
    show 1 ≤ prod P k * P.ord k
    have : 1 * 1 ≤ prod P k * P.ord k := Int.mul_le_mul ih (by omega) (by omega) (by omega)
    omega
theorem prod_le {P : PcD} {k : Nat} (h : firstNZ (overErr P) k = 0) : prod P k ≤ 50000 := by
  cases k with
  | zero => simp [prod, foldTo]
  | succ k =>
    have := firstNZ_zero h k (by omega)
    unfold overErr at this
    by_cases hc : prod P (k + 1) ≤ 50000
    · exact hc
    · rw [if_neg hc] at this; cases this

set_option maxHeartbeats 400000 in
theorem chk4_any (w0 w : World) (bp bo : Nat) (v0 : Value) (P : PcD) (hp : w.cell? ⟨bp, 0, none⟩ = some v0) (h0 : IntsAt w0 v0 P.orders) (hb : Below w0.heap.size w0 w) (hbo : w0.heap.size ≤ bo) (_hne : bp ≠ bo)
    (hc : w.cell? ⟨bo, 0, none⟩ = some (.int .i64 1)) (hf : w.frozen? ⟨bo, 0, none⟩ = false) (ho : ∀ k, k < P.n → ordErr P k = 0) :
    Calls Try.prog 62 #[.pointer (some ⟨bp, 0, none⟩), .pointer (some ⟨bo, 0, none⟩)] w fun e w' => e = .returned (.tuple #[.int .i64 (firstNZ (overErr P) P.n), .int .i64 0]) ∧ w.grownBy w' (some bo) := by
  obtain ⟨A, ca, rfl, ha1, ha2, ha⟩ := h0.open_
  have HA := Lib.hid ha
  have HO := Lib.hid ho
  clear ha h0 ho
  have hsz := hb.size
  go_enter Try.func62, Try.ntmps62
  go_wp2_with fail
  go_loopw [5, 9] (fun _ i wr => ∃ k : Nat, k ≤ P.n ∧ i = .int .i64 k ∧ wr.cell? ⟨bo, 0, none⟩ = some (.int .i64 (prod P k)) ∧ wr.frozen? ⟨bo, 0, none⟩ = false ∧ firstNZ (overErr P) k = 0 ∧ w.grownBy wr (some bo)) (fun _ i _ => P.n - (intOf i).toNat)
  case atStart => exact ⟨0, Nat.zero_le _, rfl, hc, hf, rfl, World.grownBy.refl _ _⟩
  case round =>
    obtain ⟨k, hk, rfl, hcr, hfr, hz, hg⟩ := hrel
    have hle := prod_le hz
    have hpos := prod_pos HO.out k hk
    have HZ := Lib.hid hz
    clear hz hc hf
    by_cases hlt : k < P.n
    · obtain ⟨b, off, rfl, hcl⟩ := HA.out (by show 0 < P.n; omega)
      have c0 := hcl k hlt
      have hbl := World.block_lt_of_cell? w0 _ c0
      have c1 : wr.cell? ⟨b, off + k, none⟩ = some (.int .i64 (P.ord k)) := by
        rw [World.cell?_of_block (w := w) (a := ⟨b, off + k, none⟩) (hg.block b (by simp at hbl; omega) (by simp at hbl ⊢; omega)), hb.cell (p := ⟨b, off + k, none⟩) hbl]
        exact c0
      have ho1 := HO.out k hlt
      have ho2 : 2 ≤ P.ord k ∧ P.ord k ≤ 1000 := by
        unfold ordErr at ho1
        by_cases hc : 2 ≤ P.ord k ∧ P.ord k ≤ 1000
        · exact hc
        · rw [if_neg hc] at ho1; cases ho1
      have hps : prod P (k + 1) = prod P k * P.ord k := rfl
      have hpm : prod P k * P.ord k ≤ 50000 * 1000 := Int.mul_le_mul hle ho2.2 (by omega) (by omega)
      have hpm0 : 1 * 1 ≤ prod P k * P.ord k := Int.mul_le_mul hpos (by omega) (by omega) (by omega)
      have HPS := Lib.hid hps
      have hov : overErr P k = if prod P k * P.ord k ≤ 50000 then 0 else 5 := rfl
      have HOV := Lib.hid hov
      clear hcl c0 ho1 hps hov
      have hwrap : IntKind.i64.wrap (prod P k * P.ord k) = prod P k * P.ord k := IntWalk.i64_in _ (by omega)
      generalize prod P k = a at *
      generalize P.ord k = o at *
      by_cases hbig : a * o ≤ 50000
      · have HBig := Lib.hid hbig
        go_wp2_with fail
        go_roundw
        case rel => exact ⟨k + 1, by omega, by go_num, by (rw [HPS.out]; exact World.cell?_setCell_same _ _ _ hcr), by (rw [World.frozen?_setCell]; exact hfr), firstNZ_step HZ.out (HOV.out.trans (if_pos HBig.out)), only_setCell hg (.inl rfl) _⟩
        case measure => simp [intOf]; omega
      · have HBig := Lib.hid hbig
        go_wp2_with fail
        go_ret2
        refine ⟨ret_pair ?_ rfl, only_setCell hg (.inl rfl) _⟩
        have h5 : overErr P k = 5 := HOV.out.trans (if_neg (Int.not_le.2 HBig.out))
        rw [firstNZ_hit HZ.out (by rw [h5]; decide) P.n hlt, h5]
    · have hkn : k = P.n := by omega
      subst hkn
      have hpl : P.orders.length = P.n := rfl
      go_wp2_with fail
      go_ret2
      exact ⟨ret_pair HZ.out.symm rfl, hg⟩
end Go.Proofs
