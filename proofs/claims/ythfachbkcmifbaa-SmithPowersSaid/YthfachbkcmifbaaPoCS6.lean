/- smith.rest at rows and at columns; (smith.work).down, across and sign: steps of the procedure; (smith.work).sign and spread: steps of the procedure; (smith.work).spread; (smith.work).choose. -/
import Derived.Test.YthfachbkcmifbaaPoCS5
namespace Go.Proofs
open Go.RowKit Go.Shelf Go.Proofs.Sm
theorem restR_false {r : Nat} {s : S} (h : ∀ k, s.t + 1 ≤ k → k < r → ent s.a k s.t = 0) : s.restR r = false := by
  cases hb : s.restR r with
  | false => rfl
  | true => obtain ⟨i, h1, h2, h3⟩ := restR_iff.1 hb; exact absurd (h i h1 h2) h3
theorem restC_false {n : Nat} {s : S} (h : ∀ k, s.t + 1 ≤ k → k < n → ent s.a s.t k = 0) : s.restC n = false := by
  cases hb : s.restC n with
  | false => rfl
  | true => obtain ⟨i, h1, h2, h3⟩ := restC_iff.1 hb; exact absurd (h i h1 h2) h3
set_option maxRecDepth 100000 in
set_option maxHeartbeats 1000000 in
theorem rest101_any (base b r n : Nat) (w : World) (s : S) (hp : Piv r n s) (hr : r ≤ 100000) (_hn : n ≤ 100000) (hS : Wk 66 b base w s (.int .i64 (s.t : Int))) :
    Calls Try.prog 101 #[.pointer (some ⟨b, 0, none⟩), .agg #[.pointer (some ⟨b, 0, none⟩)]] w fun e w' => e = .returned (.bool (s.restR r)) ∧ Below w.heap.size w w' := by
  have hc3 : w.cell? ⟨b, 3, none⟩ = some (.int .i64 (s.t : Int)) := by obtain ⟨vs, bl, cs, hM⟩ := hS; exact hM.cells.2.2.2.1
  have hbl : b < w.heap.size := World.block_lt_of_cell? w _ hc3
  have HMANY : Hid (∀ W, Below w.heap.size w W → Calls Try.prog 125 #[.agg #[.pointer (some ⟨b, 0, none⟩)]] W fun e w' => e = .returned (.int .i64 (r : Int)) ∧ Below W.heap.size W w') := Lib.hid fun W hb => rmany125_any base b r n W _ _ hp.sh (hS.below hb)
  have HENT : Hid (∀ i, i < r → ∀ W, Below w.heap.size w W → Calls Try.prog 124 #[.agg #[.pointer (some ⟨b, 0, none⟩)], .int .i64 (i : Int)] W fun e w' => e = .returned (.int .i64 (ent s.a i s.t)) ∧ Below W.heap.size W w') := Lib.hid fun i hi W hb =>
    rentry124_any base b r n i W s hp.sh hi hp.ltn (hS.below hb)
  have HF := Lib.hid (@restR_false r s)
  have HTR : Hid (∀ i, s.t + 1 ≤ i → i < r → ent s.a i s.t ≠ 0 → s.restR r = true) := Lib.hid fun i h1 h2 h3 => restR_iff.2 ⟨i, h1, h2, h3⟩
  have ht := hp.ltr
  clear hS hp
  generalize s.restR r = R at *
  generalize s.t = t at *
  have ht0 : (0 : Int) ≤ (t : Int) := Int.natCast_nonneg _
  have ht1 : (t : Int) + 1 ≤ 100001 := by omega
  have hm1 := m_rmany ⟨b, 0, none⟩
  have hm2 := m_rentry ⟨b, 0, none⟩
  go_enter Try.func101, Try.ntmps101
  go_wp2_with fail
  go_loopw [5] (fun z wr => ∃ i : Nat, t + 1 ≤ i ∧ i ≤ r ∧ z = .int .i64 i ∧ Hid ((∀ k, t + 1 ≤ k → k < i → ent s.a k t = 0) ∧ Below w.heap.size w wr ∧ wr.heap[w.heap.size]? = some (.cells #[.pointer (some ⟨b, 0, none⟩)] 101 (0, 0)))) (fun z _ => r - (intOf z).toNat)
  case atStart => exact ⟨t + 1, by omega, by omega, by go_num, Lib.hid ⟨fun k h1 h2 => absurd h2 (by omega), (Below.refl _ _).alloc (Nat.le_refl _) _, heap_alloc_new w _⟩⟩
  case round =>
    obtain ⟨i, hi1, hi2, rfl, HR⟩ := hrel
    have hi0 : (0 : Int) ≤ (i : Int) := Int.natCast_nonneg _
    have hbx : wr.cell? ⟨w.heap.size, 0, none⟩ = some (.pointer (some ⟨b, 0, none⟩)) := by rw [cell_of_row _ _ _ _ _ _ HR.out.2.2]; rfl
    by_cases hlt : i < r
    · have hlt' : (i : Int) < (r : Int) := by omega
      have HE := Lib.hid (HENT.out i hlt)
      have HTR2 := Lib.hid (HTR.out i hi1 hlt)
      have HZ := Lib.hid HR.out.1
      generalize hx : ent s.a i t = x at *
      have HX := Lib.hid hx
      clear hx
      by_cases hx0 : x = 0
      · have hd : (x != 0) = false := by simpa using hx0
        have HX0 := Lib.hid hx0
        clear hx0
        go_wp2_with (first
          | (go_at_call 125; (refine (HMANY.out _ HR.out.2.1).mono ?_); rintro e w1 ⟨rfl, hb1⟩
             have HB1 := Lib.hid (HR.out.2.1.trans (hb1.mono HR.out.2.1.size))
             have HBX1 : Hid (w1.heap[w.heap.size]? = some (.cells #[.pointer (some ⟨b, 0, none⟩)] 101 (0, 0))) := Lib.hid ((hb1.block _ (Array.getElem?_eq_some_iff.1 HR.out.2.2).1).trans HR.out.2.2)
             have hbx1 : w1.cell? ⟨w.heap.size, 0, none⟩ = some (.pointer (some ⟨b, 0, none⟩)) := by rw [cell_of_row _ _ _ _ _ _ HBX1.out]; rfl
             clear hb1)
          | (go_at_call 124; (refine (HE.out _ HB1.out).mono ?_); rintro e w2 ⟨rfl, hb2⟩
             have HB2 := Lib.hid (HB1.out.trans (hb2.mono HB1.out.size))
             have HBX2 : Hid (w2.heap[w.heap.size]? = some (.cells #[.pointer (some ⟨b, 0, none⟩)] 101 (0, 0))) := Lib.hid ((hb2.block _ (Array.getElem?_eq_some_iff.1 HBX1.out).1).trans HBX1.out)
             clear hb2))
        go_roundw
        case rel => exact ⟨i + 1, by omega, by omega, by go_num, Lib.hid ⟨fun k h1 h2 => by
            by_cases e : k = i
            · subst e; rw [HX.out, HX0.out]
            · exact HZ.out k h1 (by omega), HB2.out, HBX2.out⟩⟩
        case measure => simp [intOf]; omega
      · have hd : (x != 0) = true := by simpa using hx0
        have HX0 := Lib.hid hx0
        clear hx0
        go_wp2_with (first
          | (go_at_call 125; (refine (HMANY.out _ HR.out.2.1).mono ?_); rintro e w1 ⟨rfl, hb1⟩
             have HB1 := Lib.hid (HR.out.2.1.trans (hb1.mono HR.out.2.1.size))
             have HBX1 : Hid (w1.heap[w.heap.size]? = some (.cells #[.pointer (some ⟨b, 0, none⟩)] 101 (0, 0))) := Lib.hid ((hb1.block _ (Array.getElem?_eq_some_iff.1 HR.out.2.2).1).trans HR.out.2.2)
             have hbx1 : w1.cell? ⟨w.heap.size, 0, none⟩ = some (.pointer (some ⟨b, 0, none⟩)) := by rw [cell_of_row _ _ _ _ _ _ HBX1.out]; rfl
             clear hb1)
          | (go_at_call 124; (refine (HE.out _ HB1.out).mono ?_); rintro e w2 ⟨rfl, hb2⟩
             have HB2 := Lib.hid (HB1.out.trans (hb2.mono HB1.out.size))
             clear hb2))
        go_ret
        exact ⟨ret_bool (HTR2.out HX0.out).symm, HB2.out⟩
    · obtain rfl : i = r := by omega
      have HZ := Lib.hid (HF.out HR.out.1)
      go_wp2_with (go_at_call 125; (refine (HMANY.out _ HR.out.2.1).mono ?_); rintro e w1 ⟨rfl, hb1⟩; have HB1 := Lib.hid (HR.out.2.1.trans (hb1.mono HR.out.2.1.size)); clear hb1)
      go_ret
      exact ⟨ret_bool HZ.out.symm, HB1.out⟩
set_option maxRecDepth 100000 in
set_option maxHeartbeats 1000000 in
theorem rest102_any (base b r n : Nat) (w : World) (s : S) (hp : Piv r n s) (_hr : r ≤ 100000) (hn : n ≤ 100000) (hS : Wk 66 b base w s (.int .i64 (s.t : Int))) :
    Calls Try.prog 102 #[.pointer (some ⟨b, 0, none⟩), .agg #[.pointer (some ⟨b, 0, none⟩)]] w fun e w' => e = .returned (.bool (s.restC n)) ∧ Below w.heap.size w w' := by
  have hc3 : w.cell? ⟨b, 3, none⟩ = some (.int .i64 (s.t : Int)) := by obtain ⟨vs, bl, cs, hM⟩ := hS; exact hM.cells.2.2.2.1
  have hbl : b < w.heap.size := World.block_lt_of_cell? w _ hc3
  have HMANY : Hid (∀ W, Below w.heap.size w W → Calls Try.prog 128 #[.agg #[.pointer (some ⟨b, 0, none⟩)]] W fun e w' => e = .returned (.int .i64 (n : Int)) ∧ Below W.heap.size W w') := Lib.hid fun W hb => cmany128_any base b r n W _ _ hp.sh (hS.below hb)
  have HENT : Hid (∀ i, i < n → ∀ W, Below w.heap.size w W → Calls Try.prog 127 #[.agg #[.pointer (some ⟨b, 0, none⟩)], .int .i64 (i : Int)] W fun e w' => e = .returned (.int .i64 (ent s.a s.t i)) ∧ Below W.heap.size W w') := Lib.hid fun i hi W hb =>
    centry127_any base b r n i W s hp.sh hi hp.ltr (hS.below hb)
  have HF := Lib.hid (@restC_false n s)
  have HTR : Hid (∀ i, s.t + 1 ≤ i → i < n → ent s.a s.t i ≠ 0 → s.restC n = true) := Lib.hid fun i h1 h2 h3 => restC_iff.2 ⟨i, h1, h2, h3⟩
  have ht := hp.ltn
  clear hS hp
  generalize s.restC n = R at *
  generalize s.t = t at *
  have ht0 : (0 : Int) ≤ (t : Int) := Int.natCast_nonneg _
  have ht1 : (t : Int) + 1 ≤ 100001 := by omega
  have hm1 := m_cmany ⟨b, 0, none⟩
  have hm2 := m_centry ⟨b, 0, none⟩
  go_enter Try.func102, Try.ntmps102
  go_wp2_with fail
  go_loopw [5] (fun z wr => ∃ i : Nat, t + 1 ≤ i ∧ i ≤ n ∧ z = .int .i64 i ∧ Hid ((∀ k, t + 1 ≤ k → k < i → ent s.a t k = 0) ∧ Below w.heap.size w wr ∧ wr.heap[w.heap.size]? = some (.cells #[.pointer (some ⟨b, 0, none⟩)] 103 (0, 0)))) (fun z _ => n - (intOf z).toNat)
  case atStart => exact ⟨t + 1, by omega, by omega, by go_num, Lib.hid ⟨fun k h1 h2 => absurd h2 (by omega), (Below.refl _ _).alloc (Nat.le_refl _) _, heap_alloc_new w _⟩⟩
  case round =>
    obtain ⟨i, hi1, hi2, rfl, HR⟩ := hrel
    have hi0 : (0 : Int) ≤ (i : Int) := Int.natCast_nonneg _
    have hbx : wr.cell? ⟨w.heap.size, 0, none⟩ = some (.pointer (some ⟨b, 0, none⟩)) := by rw [cell_of_row _ _ _ _ _ _ HR.out.2.2]; rfl
    by_cases hlt : i < n
    · have hlt' : (i : Int) < (n : Int) := by omega
      have HE := Lib.hid (HENT.out i hlt)
      have HTR2 := Lib.hid (HTR.out i hi1 hlt)
      have HZ := Lib.hid HR.out.1
      generalize hx : ent s.a t i = x at *
      have HX := Lib.hid hx
      clear hx
      by_cases hx0 : x = 0
      · have hd : (x != 0) = false := by simpa using hx0
        have HX0 := Lib.hid hx0
        clear hx0
        go_wp2_with (first
          | (go_at_call 128; (refine (HMANY.out _ HR.out.2.1).mono ?_); rintro e w1 ⟨rfl, hb1⟩
             have HB1 := Lib.hid (HR.out.2.1.trans (hb1.mono HR.out.2.1.size))
             have HBX1 : Hid (w1.heap[w.heap.size]? = some (.cells #[.pointer (some ⟨b, 0, none⟩)] 103 (0, 0))) := Lib.hid ((hb1.block _ (Array.getElem?_eq_some_iff.1 HR.out.2.2).1).trans HR.out.2.2)
             have hbx1 : w1.cell? ⟨w.heap.size, 0, none⟩ = some (.pointer (some ⟨b, 0, none⟩)) := by rw [cell_of_row _ _ _ _ _ _ HBX1.out]; rfl
             clear hb1)
          | (go_at_call 127; (refine (HE.out _ HB1.out).mono ?_); rintro e w2 ⟨rfl, hb2⟩
             have HB2 := Lib.hid (HB1.out.trans (hb2.mono HB1.out.size))
             have HBX2 : Hid (w2.heap[w.heap.size]? = some (.cells #[.pointer (some ⟨b, 0, none⟩)] 103 (0, 0))) := Lib.hid ((hb2.block _ (Array.getElem?_eq_some_iff.1 HBX1.out).1).trans HBX1.out)
             clear hb2))
        go_roundw
        case rel => exact ⟨i + 1, by omega, by omega, by go_num, Lib.hid ⟨fun k h1 h2 => by
            by_cases e : k = i
            · subst e; rw [HX.out, HX0.out]
            · exact HZ.out k h1 (by omega), HB2.out, HBX2.out⟩⟩
        case measure => simp [intOf]; omega
      · have hd : (x != 0) = true := by simpa using hx0
        have HX0 := Lib.hid hx0
        clear hx0
        go_wp2_with (first
          | (go_at_call 128; (refine (HMANY.out _ HR.out.2.1).mono ?_); rintro e w1 ⟨rfl, hb1⟩
             have HB1 := Lib.hid (HR.out.2.1.trans (hb1.mono HR.out.2.1.size))
             have HBX1 : Hid (w1.heap[w.heap.size]? = some (.cells #[.pointer (some ⟨b, 0, none⟩)] 103 (0, 0))) := Lib.hid ((hb1.block _ (Array.getElem?_eq_some_iff.1 HR.out.2.2).1).trans HR.out.2.2)
             have hbx1 : w1.cell? ⟨w.heap.size, 0, none⟩ = some (.pointer (some ⟨b, 0, none⟩)) := by rw [cell_of_row _ _ _ _ _ _ HBX1.out]; rfl
             clear hb1)
          | (go_at_call 127; (refine (HE.out _ HB1.out).mono ?_); rintro e w2 ⟨rfl, hb2⟩
             have HB2 := Lib.hid (HB1.out.trans (hb2.mono HB1.out.size))
             clear hb2))
        go_ret
        exact ⟨ret_bool (HTR2.out HX0.out).symm, HB2.out⟩
    · obtain rfl : i = n := by omega
      have HZ := Lib.hid (HF.out HR.out.1)
      go_wp2_with (go_at_call 128; (refine (HMANY.out _ HR.out.2.1).mono ?_); rintro e w1 ⟨rfl, hb1⟩; have HB1 := Lib.hid (HR.out.2.1.trans (hb1.mono HR.out.2.1.size)); clear hb1)
      go_ret
      exact ⟨ret_bool HZ.out.symm, HB1.out⟩
end Go.Proofs
namespace Go.Proofs
open Go.RowKit Go.Shelf Go.Proofs.Sm
/-- the function that carries out a step, bound to the state at b -/
def stepV (b : Nat) : Option Ph → Value
  | none => .nilFunc
  | some .choose => .func (.func 56) #[.pointer (some ⟨b, 0, none⟩)] #[]
  | some .down => .func (.func 73) #[.pointer (some ⟨b, 0, none⟩)] #[]
  | some .across => .func (.func 92) #[.pointer (some ⟨b, 0, none⟩)] #[]
  | some .spread => .func (.func 103) #[.pointer (some ⟨b, 0, none⟩)] #[]
  | some .sign => .func (.func 107) #[.pointer (some ⟨b, 0, none⟩)] #[]
/-- a step that goes on -/
def StepYes (b base : Nat) (p : Option Ph) (s : S) (w : World) (e : Ending) (w' : World) : Prop := e = .returned (stepV b p) ∧ Wk 66 b base w' s (.int .i64 (s.t : Int)) ∧ Ch base w w'
/-- a step that fails -/
def StepNo (base : Nat) (w : World) (e : Ending) (w' : World) : Prop := e = .panicked failP ∧ Ch base w w'
section
variable (base b r n : Nat) (w : World) (s : S) (hr : r ≤ 100000) (hn : n ≤ 100000) (hS : Wk 66 b base w s (.int .i64 (s.t : Int))) (hbw : base ≤ w.heap.size)
include hr hn hS hbw
theorem down73_yes (hp : Piv r n s) (hf : (s.down r).fine = true) : Calls Try.prog 73 #[.pointer (some ⟨b, 0, none⟩)] w (StepYes b base (some .across) (s.down r) w) := by
  have ht : (s.down r).t = s.t := (down_at hp).t
  have HC : Hid (Calls Try.prog 91 #[.pointer (some ⟨b, 0, none⟩), .agg #[.pointer (some ⟨b, 0, none⟩)]] w fun e w' => e = .returned (.tuple #[]) ∧ Wk 66 b base w' (s.down r) (.int .i64 ((s.down r).t : Int)) ∧ Ch base w w') :=
    Lib.hid ((clear91_any base b r n w s hp hr hn hS hbw).mono fun e w' h => by
      obtain ⟨h1, h2⟩ := h
      rcases h1 with ⟨-, h3, h4⟩ | ⟨h3, -⟩
      · exact ⟨h3, by rw [ht]; exact h4, h2⟩
      · exact absurd (hf.symm.trans h3) (by decide))
  clear hS hp hf ht
  go_enter Try.func73, Try.ntmps73
  go_wp2_with (go_at_call 91; (refine HC.out.mono ?_); rintro e w1 ⟨rfl, h1, h2⟩; have H1 := Lib.hid h1; have H2 := Lib.hid h2; clear h1 h2)
  go_ret
  exact ⟨rfl, H1.out, H2.out⟩
theorem down73_no (hp : Piv r n s) (hf : (s.down r).fine = false) : Calls Try.prog 73 #[.pointer (some ⟨b, 0, none⟩)] w (StepNo base w) := by
  have HC : Hid (Calls Try.prog 91 #[.pointer (some ⟨b, 0, none⟩), .agg #[.pointer (some ⟨b, 0, none⟩)]] w fun e w' => e = .panicked failP ∧ Ch base w w') :=
    Lib.hid ((clear91_any base b r n w s hp hr hn hS hbw).mono fun e w' h => by
      obtain ⟨h1, h2⟩ := h
      rcases h1 with ⟨h3, -⟩ | ⟨-, h3⟩
      · exact absurd (h3.symm.trans hf) (by decide)
      · exact ⟨h3, h2⟩)
  clear hS hp hf
  go_enter Try.func73, Try.ntmps73
  go_wp2_with (go_at_call 91; (refine HC.out.mono ?_); rintro e w1 ⟨rfl, h2⟩; have H2 := Lib.hid h2; clear h2)
  exact ⟨rfl, rfl, H2.out⟩
theorem across92_no (hp : Acr r n s) (hf : (s.across n).fine = false) : Calls Try.prog 92 #[.pointer (some ⟨b, 0, none⟩)] w (StepNo base w) := by
  have HC : Hid (Calls Try.prog 100 #[.pointer (some ⟨b, 0, none⟩), .agg #[.pointer (some ⟨b, 0, none⟩)]] w fun e w' => e = .panicked failP ∧ Ch base w w') :=
    Lib.hid ((clear100_any base b r n w s hp hr hn hS hbw).mono fun e w' h => by
      obtain ⟨h1, h2⟩ := h
      rcases h1 with ⟨h3, -⟩ | ⟨-, h3⟩
      · exact absurd (h3.symm.trans hf) (by decide)
      · exact ⟨h3, h2⟩)
  clear hS hp hf
  go_enter Try.func92, Try.ntmps92
  go_wp2_with (go_at_call 100; (refine HC.out.mono ?_); rintro e w1 ⟨rfl, h2⟩; have H2 := Lib.hid h2; clear h2)
  exact ⟨rfl, rfl, H2.out⟩
set_option maxRecDepth 100000 in
theorem across92_yes (hp : Acr r n s) (hf : (s.across n).fine = true) : Calls Try.prog 92 #[.pointer (some ⟨b, 0, none⟩)] w (StepYes b base (some (if (s.across n).restR r || (s.across n).restC n then .choose else .spread)) (s.across n) w) := by
  have hP2 := (pi_across hp hf).1.toPiv
  have ht : (s.across n).t = s.t := (across_at hp.toPiv).t
  have HC : Hid (Calls Try.prog 100 #[.pointer (some ⟨b, 0, none⟩), .agg #[.pointer (some ⟨b, 0, none⟩)]] w fun e w' => e = .returned (.tuple #[]) ∧ Wk 66 b base w' (s.across n) (.int .i64 ((s.across n).t : Int)) ∧ Ch base w w') :=
    Lib.hid ((clear100_any base b r n w s hp hr hn hS hbw).mono fun e w' h => by
      obtain ⟨h1, h2⟩ := h
      rcases h1 with ⟨-, h3, h4⟩ | ⟨h3, -⟩
      · exact ⟨h3, by rw [ht]; exact h4, h2⟩
      · exact absurd (hf.symm.trans h3) (by decide))
  have HR : Hid (∀ W, Wk 66 b base W (s.across n) (.int .i64 ((s.across n).t : Int)) → Calls Try.prog 101 #[.pointer (some ⟨b, 0, none⟩), .agg #[.pointer (some ⟨b, 0, none⟩)]] W fun e w' => e = .returned (.bool ((s.across n).restR r)) ∧ Below W.heap.size W w') := Lib.hid fun W h => rest101_any base b r n W _ hP2 hr hn h
  have HC2 : Hid (∀ W, Wk 66 b base W (s.across n) (.int .i64 ((s.across n).t : Int)) → Calls Try.prog 102 #[.pointer (some ⟨b, 0, none⟩), .agg #[.pointer (some ⟨b, 0, none⟩)]] W fun e w' => e = .returned (.bool ((s.across n).restC n)) ∧ Below W.heap.size W w') := Lib.hid fun W h => rest102_any base b r n W _ hP2 hr hn h
  clear hS hp hf ht hP2
  generalize s.across n = s2 at *
  generalize s2.restR r = f1 at *
  generalize s2.restC n = f2 at *
  cases f1 with
  | true =>
    go_enter Try.func92, Try.ntmps92
    go_wp2_with (first
      | (go_at_call 100; (refine HC.out.mono ?_); rintro e w1 ⟨rfl, h1, h2⟩; have H1 := Lib.hid h1; have H2 := Lib.hid h2; clear h1 h2)
      | (go_at_call 101; (refine (HR.out _ H1.out).mono ?_); rintro e w2 ⟨rfl, h3⟩; have H3 := Lib.hid h3; clear h3))
    go_ret
    exact ⟨rfl, H1.out.below H3.out, H2.out.trans (Ch.of_below (Nat.le_trans hbw H2.out.size) H3.out)⟩
  | false =>
    cases f2 with
    | true =>
      go_enter Try.func92, Try.ntmps92
      go_wp2_with (first
        | (go_at_call 100; (refine HC.out.mono ?_); rintro e w1 ⟨rfl, h1, h2⟩; have H1 := Lib.hid h1; have H2 := Lib.hid h2; clear h1 h2)
        | (go_at_call 101; (refine (HR.out _ H1.out).mono ?_); rintro e w2 ⟨rfl, h3⟩; have H3 := Lib.hid h3; clear h3)
        | (go_at_call 102; (refine (HC2.out _ (H1.out.below H3.out)).mono ?_); rintro e w3 ⟨rfl, h4⟩; have H4 := Lib.hid (H3.out.trans (h4.mono H3.out.size)); clear h4))
      go_ret
      exact ⟨rfl, H1.out.below H4.out, H2.out.trans (Ch.of_below (Nat.le_trans hbw H2.out.size) H4.out)⟩
    | false =>
      go_enter Try.func92, Try.ntmps92
      go_wp2_with (first
        | (go_at_call 100; (refine HC.out.mono ?_); rintro e w1 ⟨rfl, h1, h2⟩; have H1 := Lib.hid h1; have H2 := Lib.hid h2; clear h1 h2)
        | (go_at_call 101; (refine (HR.out _ H1.out).mono ?_); rintro e w2 ⟨rfl, h3⟩; have H3 := Lib.hid h3; clear h3)
        | (go_at_call 102; (refine (HC2.out _ (H1.out.below H3.out)).mono ?_); rintro e w3 ⟨rfl, h4⟩; have H4 := Lib.hid (H3.out.trans (h4.mono H3.out.size)); clear h4))
      go_ret
      exact ⟨rfl, H1.out.below H4.out, H2.out.trans (Ch.of_below (Nat.le_trans hbw H2.out.size) H4.out)⟩
end
end Go.Proofs
namespace Go.Proofs
open Go.RowKit Go.Shelf Go.Proofs.Sm
theorem Wk.look {T b base r n : Nat} {W : World} {s : S} {z : Value} {i j : Nat} (hW : Wk T b base W s z) (hs : Shape r n s) (hi : i < r) (hj : j < n) : ∃ g d bt ct, W.cell? ⟨b, 0, none⟩ = some (.slice (some ⟨g, 0, none⟩) r d) ∧ W.cell? ⟨b, 3, none⟩ = some z ∧ W.cell? ⟨g, i, none⟩ = some (.slice (some ⟨bt, 0, none⟩) n ct) ∧ W.cell? ⟨bt, j, none⟩ = some (.int .i64 (ent s.a i j)) ∧ n ≤ ct ∧ ct ≤ 9223372036854775807 ∧ r ≤ d ∧ d ≤ 9223372036854775807 := by
  obtain ⟨vs, bl, cs, hM⟩ := hW
  obtain ⟨c0, c1, c2, c3, c4⟩ := hM.cells
  have hl : (s.mat 0).length = r := hs.ra.1
  have hrl : ((s.mat 0).getD i []).length = n := rect_row hs.ra hi
  obtain ⟨g, d, hv, h1, -, -⟩ := hM.row_at (k := 0) (i := i) (by omega) (by rw [hl]; exact hi)
  obtain ⟨h2, -⟩ := hM.ent_at (k := 0) (i := i) (j := j) (by omega) (by rw [hl]; exact hi) (by rw [hrl]; exact hj)
  obtain ⟨-, -, h3, h4⟩ := hM.row 0 i (by omega) (by rw [hl]; exact hi)
  obtain ⟨A, c, hf, h5, h6⟩ := hM.form (k := 0) (by omega)
  rw [hrl] at h1 h3
  rw [hv, hl] at c0
  rw [hv, hl] at hf
  rw [hl] at h5
  have hcd : d = c := by injection hf
  subst hcd
  exact ⟨g, d, bl 0 i, cs 0 i, c0, c3, h1, h2, h3, h4, h5, h6⟩
theorem Wk.cell3 {T b base : Nat} {W : World} {s : S} {z : Value} (hW : Wk T b base W s z) : W.cell? ⟨b, 3, none⟩ = some z ∧ W.frozen? ⟨b, 3, none⟩ = false ∧ base ≤ b ∧ ∃ C, W.heap[b]? = some (.cells C T (0, 0)) := by
  obtain ⟨vs, bl, cs, hM⟩ := hW
  exact ⟨hM.cells.2.2.2.1, hM.cells.2.2.2.2 3, hM.bb, _, hM.box⟩
theorem Wk.set3 {T b base : Nat} {W : World} {s s' : S} {z : Value} (hW : Wk T b base W s z) (y : Value) (ha : s'.a = s.a) (hu : s'.u = s.u) (hv : s'.v = s.v) : Wk T b base (W.setCell ⟨b, 3, none⟩ y) s' y := by
  obtain ⟨vs, bl, cs, hM⟩ := hW
  exact ⟨vs, bl, cs, (hM.set3 y).of ha hu hv⟩
set_option maxRecDepth 100000 in
set_option maxHeartbeats 1000000 in
theorem sign107_any (base b r n : Nat) (w : World) (s : S) (hr : r ≤ 100000) (hn : n ≤ 100000) (hS : Wk 66 b base w s (.int .i64 (s.t : Int))) (hbw : base ≤ w.heap.size) (hp : Piv r n s) :
    Calls Try.prog 107 #[.pointer (some ⟨b, 0, none⟩)] w (StepYes b base (some .choose) { s.sign with t := s.t + 1 } w) := by
  obtain ⟨g, d, bt, ct, k1, k2, k3, k4, k5, k6, k7, k8⟩ := hS.look hp.sh hp.ltr hp.ltn
  have hbl : b < w.heap.size := World.block_lt_of_cell? w _ k1
  have ht := hp.ltr
  have htn := hp.ltn
  have h3 := hS.cell3
  by_cases hneg : ent s.a s.t s.t < 0
  · have hsg : s.sign = s.addR s.t s.t (-2) := by unfold S.sign; rw [if_pos hneg]
    rw [hsg]
    have hfit : ∀ m : Mat, (∀ i j, -1000000000 ≤ ent m i j ∧ ent m i j ≤ 1000000000) → FitR m s.t s.t (-2) := fun m h j => by
      have := h s.t j
      unfold In64
      omega
    have HADD : Hid (∀ W, Below w.heap.size w W → Calls Try.prog 106 #[.agg #[.pointer (some ⟨b, 0, none⟩)], .int .i64 (s.t : Int), .int .i64 (s.t : Int), .int .i64 (-2)] W fun e w' => e = .returned (.tuple #[]) ∧ Wk 66 b base w' (s.addR s.t s.t (-2)) (.int .i64 (s.t : Int)) ∧ Ch base W w') := Lib.hid fun W hb =>
      radd106_any base b s.t s.t r n (-2) W s _ hp.sh ht ht (by omega) (by omega) (hS.below hb) (Nat.le_trans hbw hb.size) (hfit _ hp.toBase.bda) (hfit _ hp.toBase.bdu)
    clear hS hp hsg hfit h3
    generalize ent s.a s.t s.t = z at *
    generalize s.addR s.t s.t (-2) = s2 at *
    generalize s.t = t at *
    have ht0 : (0 : Int) ≤ (t : Int) := Int.natCast_nonneg _
    have htr : (t : Int) < (r : Int) := by omega
    have htn' : (t : Int) < (n : Int) := by omega
    have htb : (t : Int) ≤ 100000 := by omega
    have hd1 : decide (z < 0) = true := decide_eq_true hneg
    have HS6 : Hid (∀ m, (w.drewN m).drew.cell? ⟨b, 3, none⟩ = some (.int .i64 (t : Int))) := Lib.hid fun m => k2
    go_enter Try.func107, Try.ntmps107
    go_wp2_with fail
    go_quiet (fail)
    go_wp2_with fail
    go_region_held3 (fun W => W.cell? ⟨b, 3, none⟩ = some (.int .i64 (t : Int))) (first | (with_reducible exact HS7.out) | (with_reducible exact HS6.out _) | go_keep)
      ((go_at_call 106; (refine (HADD.out _ (below_drew (below_drewN (Below.refl _ _) _))).mono ?_); rintro e w3 ⟨rfl, hw3, hch⟩; have HW3 := Lib.hid hw3; have HCH3 := Lib.hid (((Ch.refl base w).drewN _).drew.trans hch); have HS7 := Lib.hid hw3.cell3.1; clear hch))
    obtain ⟨j1, j2, j3, C, j4⟩ := HW3.out.cell3
    have HB := Lib.hid (HCH3.out.setCell j3 j4 (.inr (.inr (.inl rfl))) 3 (.int .i64 ((t : Int) + 1)))
    clear j3 j4 k2 hw3
    go_wp2_with fail
    go_ret
    exact ⟨rfl, HW3.out.set3 _ rfl rfl rfl, HB.out⟩
  · have hsg : s.sign = s := by unfold S.sign; rw [if_neg hneg]
    rw [hsg]
    have HW := Lib.hid hS
    have hd1 : decide (ent s.a s.t s.t < 0) = false := decide_eq_false hneg
    obtain ⟨j1, j2, j3, C, j4⟩ := h3
    have HB : Hid (∀ m, Ch base w ((w.drewN m).setCell ⟨b, 3, none⟩ (.int .i64 ((s.t : Int) + 1)))) := Lib.hid fun m => ((Ch.refl base w).drewN m).setCell j3 j4 (.inr (.inr (.inl rfl))) 3 _
    have HN : Hid (∀ m, Wk 66 b base ((w.drewN m).setCell ⟨b, 3, none⟩ (.int .i64 ((s.t : Int) + 1))) { s with t := s.t + 1 } (.int .i64 ((s.t : Int) + 1))) := Lib.hid fun m => (hS.drewN m).set3 _ rfl rfl rfl
    clear hS hp hsg j3 j4 hneg
    generalize ent s.a s.t s.t = z at *
    generalize s.t = t at *
    have ht0 : (0 : Int) ≤ (t : Int) := Int.natCast_nonneg _
    have htr : (t : Int) < (r : Int) := by omega
    have htn' : (t : Int) < (n : Int) := by omega
    have htb : (t : Int) ≤ 100000 := by omega
    go_enter Try.func107, Try.ntmps107
    go_wp2_with fail
    go_quiet (fail)
    go_wp2_with fail
    go_ret
    exact ⟨rfl, HN.out _, HB.out _⟩
end Go.Proofs
namespace Go.Proofs
open Go.RowKit Go.Shelf Go.Proofs.Sm
theorem find_range {lo hi i : Nat} {p : Nat → Bool} (h1 : lo ≤ i) (h2 : i < hi) (hp : p i = true) (hz : ∀ k, lo ≤ k → k < i → p k = false) : (List.range' lo (hi - lo)).find? p = some i := by
  have e : List.range' lo (hi - lo) = List.range' lo (i - lo) ++ i :: List.range' (i + 1) (hi - (i + 1)) := by
    rw [show hi - lo = (i - lo) + ((hi - (i + 1)) + 1) by omega, ← List.range'_append_1, List.range'_succ]
    congr 2
    · omega
    · congr 1; omega
  rw [e, List.find?_append, List.find?_eq_none.2 (fun x hx => by
    rw [List.mem_range'_1] at hx
    rw [hz x (by omega) (by omega)]; decide)]
  simp [hp]
theorem find_none {lo hi : Nat} {p : Nat → Bool} (hz : ∀ k, lo ≤ k → k < hi → p k = false) : (List.range' lo (hi - lo)).find? p = none := by
  rw [List.find?_eq_none]
  intro x hx
  rw [List.mem_range'_1] at hx
  rw [hz x (by omega) (by omega)]; decide
theorem fit_one {m : Mat} (h : ∀ i j, -1000000000 ≤ ent m i j ∧ ent m i j ≤ 1000000000) (i k : Nat) : FitR m i k 1 := fun j => by
  have h1 := h i j
  have h2 := h k j
  unfold In64
  omega
theorem mid_one {r n : Nat} {s : S} (h : Base r n s) {i k : Nat} (hi : i < r) (hk : k < r) : ∀ y ∈ allRows (s.addR i k 1), ∀ z ∈ y, Mid z := by
  refine mid_rows (fun p j => ?_) (fun p j => ?_) (fun p j => mid_of (h.bdv p j))
  · show Mid (ent (Sm.addR s.a i k 1) p j)
    rw [ent_addR h.sh.ra hi hk]
    have h1 := h.bda i j
    have h2 := h.bda k j
    have h3 := h.bda p j
    unfold Mid
    split <;> omega
  · show Mid (ent (Sm.addR s.u i k 1) p j)
    rw [ent_addR h.sh.ru hi hk]
    have h1 := h.bdu i j
    have h2 := h.bdu k j
    have h3 := h.bdu p j
    unfold Mid
    split <;> omega
/-- what a step that spreads comes to -/
def SpreadPost (b base r n : Nat) (s : S) (w : World) (e : Ending) (w' : World) : Prop :=
  (s.spreadAt r n = none ∧ StepYes b base (some .sign) s w e w') ∨ ∃ i, s.spreadAt r n = some i ∧ (((s.addR s.t i 1).fine = true ∧ StepYes b base (some .across) (s.addR s.t i 1) w e w') ∨ ((s.addR s.t i 1).fine = false ∧ StepNo base w e w'))
set_option maxRecDepth 100000 in
set_option maxHeartbeats 2000000 in
theorem spread103_any (base b r n : Nat) (w : World) (s : S) (hr : r ≤ 100000) (hn : n ≤ 100000) (hS : Wk 66 b base w s (.int .i64 (s.t : Int))) (hbw : base ≤ w.heap.size) (hp : Piv r n s) :
    Calls Try.prog 103 #[.pointer (some ⟨b, 0, none⟩)] w (SpreadPost b base r n s w) := by
  obtain ⟨g, d, bt, ct, k1, k2, k3, k4, k5, k6, k7, k8⟩ := hS.look hp.sh hp.ltr hp.ltn
  have hbl : b < w.heap.size := World.block_lt_of_cell? w _ k1
  have ht := hp.ltr
  have htn := hp.ltn
  have HLOOK : Hid (∀ i j, i < r → j < n → ∃ bi ci, w.cell? ⟨g, i, none⟩ = some (.slice (some ⟨bi, 0, none⟩) n ci) ∧ w.cell? ⟨bi, j, none⟩ = some (.int .i64 (ent s.a i j)) ∧ n ≤ ci ∧ ci ≤ 9223372036854775807) := Lib.hid fun i j hi hj => by
    obtain ⟨g2, d2, bi, ci, q1, -, q3, q4, q5, q6, -, -⟩ := hS.look hp.sh hi hj
    rw [k1] at q1
    have e : g = g2 := by injection q1 with e1; injection e1 with e2; injection e2 with e3; injection e3
    subst e
    exact ⟨bi, ci, q3, q4, q5, q6⟩
  have HS := Lib.hid hS
  have HP := Lib.hid hp
  have HADD : Hid (∀ i, i < r → ∀ W, Below w.heap.size w W → Calls Try.prog 106 #[.agg #[.pointer (some ⟨b, 0, none⟩)], .int .i64 (s.t : Int), .int .i64 (i : Int), .int .i64 1] W fun e w' => e = .returned (.tuple #[]) ∧ Wk 66 b base w' (s.addR s.t i 1) (.int .i64 (s.t : Int)) ∧ Ch base W w') := Lib.hid fun i hi W hb =>
    radd106_any base b s.t i r n 1 W s _ hp.sh ht hi (by omega) (by omega) (hS.below hb) (Nat.le_trans hbw hb.size) (fit_one hp.toBase.bda _ _) (fit_one hp.toBase.bdu _ _)
  have HCK : Hid (∀ i, i < r → ∀ W, Wk 66 b base W (s.addR s.t i 1) (.int .i64 (s.t : Int)) → Calls Try.prog 99 #[.pointer (some ⟨b, 0, none⟩)] W (CheckPost W.heap.size (s.addR s.t i 1).fine W)) := Lib.hid fun i hi W h =>
    check99_any base b r n W _ _ (hp.sh.addR hi 1) hr hn h (mid_one hp.toBase ht hi)
  have hpiv := hp.piv
  clear hS hp
  generalize hy : ent s.a s.t s.t = y at *
  have HY := Lib.hid hy
  obtain ⟨t, hst⟩ : ∃ t, t = s.t := ⟨_, rfl⟩
  rw [← hst] at k2 k3 k4 ht htn HADD HCK
  have HT := Lib.hid hst
  clear hst hy
  have ht0 : (0 : Int) ≤ (t : Int) := Int.natCast_nonneg _
  have htr : (t : Int) < (r : Int) := by omega
  have htn' : (t : Int) < (n : Int) := by omega
  have htb : (t : Int) + 1 ≤ 100000 := by omega
  have hws : IntKind.i64.wrap ((t : Int) + 1) = (t : Int) + 1 := IntWalk.i64_in _ (by omega)
  have hw0 : (0 : Int) ≤ (t : Int) + 1 := by omega
  have hwt : ((t : Int) + 1).toNat = t + 1 := by omega
  have hwn : (t : Int) + 1 ≤ (n : Int) := by omega
  go_enter Try.func103, Try.ntmps103
  go_wp2_with fail
  go_loopw [3] (fun z wr => ∃ i : Nat, t + 1 ≤ i ∧ i ≤ r ∧ z = .int .i64 i ∧ Hid (∀ k, t + 1 ≤ k → k < i → s.odd n k = false) ∧ ∃ q, wr = w.drewN q) (fun z _ => r - (intOf z).toNat)
  case atStart => exact ⟨t + 1, by omega, by omega, by go_num, Lib.hid (fun k h1 h2 => absurd h2 (by omega)), 0, rfl⟩
  case round =>
    obtain ⟨i, hi1, hi2, rfl, HZ, q, rfl⟩ := hrel
    have hi0 : (0 : Int) ≤ (i : Int) := Int.natCast_nonneg _
    by_cases hlt : i < r
    · have hlt' : (i : Int) < (r : Int) := by omega
      obtain ⟨bi, ci, q1, -, q3, q4⟩ := HLOOK.out i t hlt htn
      have hci : (n : Int) ≤ (ci : Int) := by omega
      have HINNER : Hid (∀ j, j < n → ∃ x, x = ent s.a i j ∧ w.cell? ⟨bi, j, none⟩ = some (.int .i64 x)) := Lib.hid fun j hj => by
        obtain ⟨bi2, ci2, p1, p2, -, -⟩ := HLOOK.out i j hlt hj
        rw [q1] at p1
        have e : bi = bi2 := by injection p1 with e1; injection e1 with e2; injection e2 with e3; injection e3
        subst e
        exact ⟨_, rfl, p2⟩
      by_cases hcap : ci = t + 1
      · obtain rfl : n = t + 1 := by omega
        have HZ2 : Hid (∀ k, t + 1 ≤ k → k < i + 1 → s.odd (t + 1) k = false) := Lib.hid fun k h1 h2 => by
          by_cases e : k = i
          · subst e
            cases hb : s.odd (t + 1) k with
            | false => rfl
            | true =>
              obtain ⟨j, a1, a2, -⟩ := odd_iff.1 hb
              rw [← HT.out] at a1
              omega
          · exact HZ.out k h1 (by omega)
        subst hcap
        go_wp2_with fail
        go_quiet (fail)
        go_wp2_with fail
        go_loopw [34] (fun z wr => z = .int .i64 0 ∧ ∃ q', wr = w.drewN q') (fun _ _ => 0)
        case atStart => exact ⟨by first | rfl | trivial, by first | exact ⟨_, rfl⟩ | exact ex_drewN⟩
        case round =>
          obtain ⟨rfl, q', rfl⟩ := hrel
          go_wp2_with fail
          go_roundw
          case rel => exact ⟨i + 1, by omega, by omega, by go_num, HZ2, _, rfl⟩
          case measure => simp [intOf]; omega
      · have hcap' : (t : Int) + 1 < (ci : Int) := by omega
        go_wp2_with fail
        go_quiet (fail)
        go_wp2_with fail
        obtain ⟨N, hN⟩ : ∃ N, N = n - (t + 1) := ⟨_, rfl⟩
        rw [← hN]
        have HN : Hid (n = t + 1 + N) := Lib.hid (by omega)
        have hNb : (N : Int) ≤ 100000 := by omega
        clear hN
        go_loopw [34] (fun z wr => ∃ m : Nat, m ≤ N ∧ z = .int .i64 m ∧ Hid (∀ k, t + 1 ≤ k → k < t + 1 + m → (ent s.a i k).tmod y = 0) ∧ ∃ q', wr = w.drewN q') (fun z _ => N - (intOf z).toNat)
        case atStart => exact ⟨0, by omega, rfl, Lib.hid (fun k h1 h2 => absurd h2 (by omega)), by first | exact ⟨_, rfl⟩ | exact ex_drewN⟩
        case round =>
          obtain ⟨m, hm, rfl, HY2, q', rfl⟩ := hrel
          have hm0 : (0 : Int) ≤ (m : Int) := Int.natCast_nonneg _
          by_cases hml : m < N
          · have hml' : (m : Int) < (N : Int) := by omega
            obtain ⟨x, hx, hxc⟩ := HINNER.out (t + 1 + m) (by rw [HN.out]; omega)
            have HX := Lib.hid hx
            clear hx
            by_cases hx0 : x.tmod y = 0
            · have hd1 : (x.tmod y != 0) = false := by simpa using hx0
              have HX0 := Lib.hid hx0
              clear hx0
              have hyb : (y == 0) = false := by simpa using hpiv
              go_wp2_with fail
              go_quiet (fail)
              go_wp2_with fail
              go_roundw
              case rel => exact ⟨m + 1, by omega, by go_num, Lib.hid (fun k h1 h2 => by
                by_cases e : k = t + 1 + m
                · rw [e, ← HX.out]; exact HX0.out
                · exact HY2.out k h1 (by omega)), by first | exact ⟨_, rfl⟩ | exact ex_drewN⟩
              case measure => simp [intOf]; omega
            · have hd1 : (x.tmod y != 0) = true := by simpa using hx0
              have hyb : (y == 0) = false := by simpa using hpiv
              have HSA : Hid (s.spreadAt r n = some i) := Lib.hid (by
                have hodd : s.odd n i = true := odd_iff.2 ⟨t + 1 + m, by rw [← HT.out]; omega, by rw [HN.out]; omega, by rw [← HX.out, HY.out]; exact hx0⟩
                unfold S.spreadAt
                rw [← HT.out]
                exact find_range hi1 hlt hodd HZ.out)
              have HA := Lib.hid (HADD.out i hlt)
              have HC := Lib.hid (HCK.out i hlt)
              clear hx0
              have hkeep : ∀ q, Below w.heap.size w (w.drewN q) := fun q => below_drewN (Below.refl _ _) q
              have HK := Lib.hid hkeep
              clear hkeep
              cases hf : (s.addR t i 1).fine with
              | true =>
                have HC2 : Hid (∀ W, Wk 66 b base W (s.addR t i 1) (.int .i64 (t : Int)) → Calls Try.prog 99 #[.pointer (some ⟨b, 0, none⟩)] W fun e w' => e = .returned (.tuple #[]) ∧ Below W.heap.size W w') := Lib.hid fun W h => (HC.out W h).mono fun e w' h1 => ⟨by
                  obtain ⟨h2, -⟩ := h1
                  rcases h2 with ⟨-, h3⟩ | ⟨h3, -⟩
                  · exact h3
                  · exact absurd (hf.symm.trans h3) (by decide), h1.2⟩
                have HF := Lib.hid hf
                clear hf HC
                go_wp2_with fail
                go_quiet (fail)
                go_wp2_with (first
                  | (go_at_call 106; (refine (HA.out _ (by first | exact HK.out _ | exact below_drewN (HK.out _) _)).mono ?_); rintro e w1 ⟨rfl, h1, h2⟩; have H1 := Lib.hid h1; have H2 := Lib.hid (((Ch.refl base w).drewN _).trans h2); clear h1 h2)
                  | (go_at_call 99; (refine (HC2.out _ H1.out).mono ?_); rintro e w2 ⟨rfl, h3⟩; have H3 := Lib.hid h3; clear h3))
                go_ret
                exact .inr ⟨i, HSA.out, .inl ⟨by rw [← HT.out]; exact HF.out, rfl, by show Wk 66 b base _ (s.addR s.t i 1) (.int .i64 (s.t : Int)); rw [← HT.out]; exact H1.out.below H3.out, H2.out.trans (Ch.of_below (Nat.le_trans hbw H2.out.size) H3.out)⟩⟩
              | false =>
                have HC2 : Hid (∀ W, Wk 66 b base W (s.addR t i 1) (.int .i64 (t : Int)) → Calls Try.prog 99 #[.pointer (some ⟨b, 0, none⟩)] W fun e w' => e = .panicked failP ∧ Below W.heap.size W w') := Lib.hid fun W h => (HC.out W h).mono fun e w' h1 => ⟨by
                  obtain ⟨h2, -⟩ := h1
                  rcases h2 with ⟨h3, -⟩ | ⟨-, h3⟩
                  · exact absurd (h3.symm.trans hf) (by decide)
                  · exact h3, h1.2⟩
                have HF := Lib.hid hf
                clear hf HC
                go_wp2_with fail
                go_quiet (fail)
                go_wp2_with (first
                  | (go_at_call 106; (refine (HA.out _ (by first | exact HK.out _ | exact below_drewN (HK.out _) _)).mono ?_); rintro e w1 ⟨rfl, h1, h2⟩; have H1 := Lib.hid h1; have H2 := Lib.hid (((Ch.refl base w).drewN _).trans h2); clear h1 h2)
                  | (go_at_call 99; (refine (HC2.out _ H1.out).mono ?_); rintro e w2 ⟨rfl, h3⟩; have H3 := Lib.hid h3; clear h3))
                exact ⟨rfl, .inr ⟨i, HSA.out, .inr ⟨by rw [← HT.out]; exact HF.out, rfl, H2.out.trans (Ch.of_below (Nat.le_trans hbw H2.out.size) H3.out)⟩⟩⟩
          · obtain rfl : m = N := by omega
            have HZ2 : Hid (∀ k, t + 1 ≤ k → k < i + 1 → s.odd n k = false) := Lib.hid fun k h1 h2 => by
              by_cases e : k = i
              · subst e
                cases hb : s.odd n k with
                | false => rfl
                | true =>
                  obtain ⟨j, a1, a2, a3⟩ := odd_iff.1 hb
                  rw [← HT.out] at a1
                  rw [HY.out] at a3
                  exact absurd (HY2.out j a1 (by have := HN.out; omega)) a3
              · exact HZ.out k h1 (by omega)
            go_wp2_with fail
            go_roundw
            case rel => exact ⟨i + 1, by omega, by omega, by go_num, HZ2, by first | exact ⟨_, rfl⟩ | exact ex_drewN⟩
            case measure => simp [intOf]; omega
    · obtain rfl : i = r := by omega
      have HSA : Hid (s.spreadAt i n = none) := Lib.hid (by unfold S.spreadAt; rw [← HT.out]; exact find_none HZ.out)
      go_wp2_with fail
      go_ret
      exact .inl ⟨HSA.out, rfl, HS.out.drewN _, (Ch.refl base w).drewN _⟩
end Go.Proofs
namespace Go.Proofs
open Go.RowKit Go.Shelf Go.Proofs.Sm
def optX : Option (Nat × Nat) → Int
  | none => -1
  | some p => (p.1 : Int)
def optY : Option (Nat × Nat) → Int
  | none => -1
  | some p => (p.2 : Int)
theorem better_zero {a : Mat} {i j : Nat} {o : Option (Nat × Nat)} (h : ent a i j = 0) : better a i o j = o := by
  rcases o with _ | ⟨x, y⟩
  · simp [better, h]
  · simp [better, h]
theorem better_none {a : Mat} {i j : Nat} (h : ent a i j ≠ 0) : better a i none j = some (i, j) := by simp [better, h]
theorem better_lt {a : Mat} {i j x y : Nat} (h : ent a i j ≠ 0) (hl : (ent a i j).natAbs < (ent a x y).natAbs) : better a i (some (x, y)) j = some (i, j) := by simp [better, h, hl]
theorem better_ge {a : Mat} {i j x y : Nat} (hl : ¬ (ent a i j).natAbs < (ent a x y).natAbs) : better a i (some (x, y)) j = some (x, y) := by simp [better, hl]
def ChoosePost (b base r n : Nat) (s : S) (w : World) (e : Ending) (w' : World) : Prop :=
  (least s.a s.t r n = none ∧ StepYes b base none s w e w') ∨ ∃ x y, least s.a s.t r n = some (x, y) ∧ StepYes b base (some .down) ((s.swR s.t x).swC s.t y) w e w'
set_option maxRecDepth 100000 in
theorem choose56_end (base b r n : Nat) (w : World) (s : S) (_hr : r ≤ 100000) (_hn : n ≤ 100000) (hS : Wk 66 b base w s (.int .i64 (s.t : Int))) (hs : Shape r n s) (ht : s.t = r ∨ s.t = n) :
    Calls Try.prog 56 #[.pointer (some ⟨b, 0, none⟩)] w (StepYes b base none s w) := by
  have HW := Lib.hid hS
  obtain ⟨vs, bl, cs, hM⟩ := hS
  obtain ⟨c0, c1, c2, c3, c4⟩ := hM.cells
  obtain ⟨A0, d0, hv0, -, -⟩ := hM.form (k := 0) (by omega)
  obtain ⟨A2, d2, hv2, -, -⟩ := hM.form (k := 2) (by omega)
  rw [show (s.mat 0).length = r from hs.ra.1] at hv0
  rw [show (s.mat 2).length = n from hs.rv.1] at hv2
  rw [hv0] at c0
  rw [hv2] at c2
  clear hM hs hv0 hv2 c1 c4
  have hd : ((s.t : Int) == (r : Int)) = true ∨ ((s.t : Int) == (r : Int)) = false ∧ ((s.t : Int) == (n : Int)) = true := by
    rcases ht with h | h
    · left; rw [h]; simp
    · by_cases e : s.t = r
      · left; rw [e]; simp
      · right
        exact ⟨by rw [beq_eq_false_iff_ne]; omega, by rw [h]; simp⟩
  clear ht
  generalize hst : s.t = t at *
  have HT := Lib.hid hst
  clear hst
  rcases hd with hd | ⟨hd1, hd2⟩
  · go_enter Try.func56, Try.ntmps56
    go_wp2_with fail
    go_quiet (fail)
    go_wp2_with fail
    go_ret
    exact ⟨rfl, by rw [HT.out]; exact HW.out.drewN _, (Ch.refl base w).drewN _⟩
  · go_enter Try.func56, Try.ntmps56
    go_wp2_with fail
    go_quiet (fail)
    go_wp2_with fail
    go_ret
    exact ⟨rfl, by rw [HT.out]; exact HW.out.drewN _, (Ch.refl base w).drewN _⟩
set_option maxRecDepth 100000 in
set_option maxHeartbeats 4000000 in
theorem choose56_any (base b r n : Nat) (w : World) (s : S) (hr : r ≤ 100000) (hn : n ≤ 100000) (hS : Wk 66 b base w s (.int .i64 (s.t : Int))) (hbw : base ≤ w.heap.size) (hp : Base r n s) (hrt : s.t ≠ r) (hnt : s.t ≠ n) :
    Calls Try.prog 56 #[.pointer (some ⟨b, 0, none⟩)] w (ChoosePost b base r n s w) := by
  have ht : s.t < r := by have := hp.tr; omega
  have htn : s.t < n := by have := hp.tn; omega
  obtain ⟨g, d, bt, ct, k1, k2, -, -, -, -, k7, k8⟩ := hS.look hp.sh ht htn
  have hc2 : ∃ A2 d2, w.cell? ⟨b, 2, none⟩ = some (.slice A2 n d2) := by
    obtain ⟨vs, bl, cs, hM⟩ := hS
    obtain ⟨c0, c1, c2, c3, c4⟩ := hM.cells
    obtain ⟨A2, d2, hv2, -, -⟩ := hM.form (k := 2) (by omega)
    rw [show (s.mat 2).length = n from hp.sh.rv.1] at hv2
    rw [hv2] at c2
    exact ⟨A2, d2, c2⟩
  obtain ⟨A2, d2, c2⟩ := hc2
  have hbl : b < w.heap.size := World.block_lt_of_cell? w _ k1
  have HLOOK : Hid (∀ i j, i < r → j < n → ∃ bi ci, w.cell? ⟨g, i, none⟩ = some (.slice (some ⟨bi, 0, none⟩) n ci) ∧ w.cell? ⟨bi, j, none⟩ = some (.int .i64 (ent s.a i j)) ∧ n ≤ ci ∧ ci ≤ 9223372036854775807) := Lib.hid fun i j hi hj => by
    obtain ⟨g2, d2, bi, ci, q1, -, q3, q4, q5, q6, -, -⟩ := hS.look hp.sh hi hj
    rw [k1] at q1
    have e : g = g2 := by injection q1 with e1; injection e1 with e2; injection e2 with e3; injection e3
    subst e
    exact ⟨bi, ci, q3, q4, q5, q6⟩
  have HBD : Hid (∀ i j, -1000000000 ≤ ent s.a i j ∧ ent s.a i j ≤ 1000000000) := Lib.hid hp.bda
  have HRS : Hid (∀ x, x < r → ∀ W, Below w.heap.size w W → Calls Try.prog 71 #[.agg #[.pointer (some ⟨b, 0, none⟩)], .int .i64 (s.t : Int), .int .i64 (x : Int)] W fun e w' => e = .returned (.tuple #[]) ∧ Wk 66 b base w' (s.swR s.t x) (.int .i64 (s.t : Int)) ∧ Ch base W w') := Lib.hid fun x hx W hb =>
    rswap71_any base b s.t x r n W s _ hp.sh ht hx (hS.below hb) (Nat.le_trans hbw hb.size)
  have HCS : Hid (∀ x y, x < r → y < n → ∀ W, Wk 66 b base W (s.swR s.t x) (.int .i64 (s.t : Int)) → base ≤ W.heap.size → Calls Try.prog 72 #[.agg #[.pointer (some ⟨b, 0, none⟩)], .int .i64 (s.t : Int), .int .i64 (y : Int)] W fun e w' => e = .returned (.tuple #[]) ∧ Wk 66 b base w' ((s.swR s.t x).swC s.t y) (.int .i64 (s.t : Int)) ∧ Ch base W w') := Lib.hid fun x y hx hy W h hb =>
    cswap72_any base b s.t y r n W (s.swR s.t x) _ (hp.sh.swR ht hx) htn hy hr hn h hb
  have HS := Lib.hid hS
  have hd1 : ((s.t : Int) == (r : Int)) = false := by rw [beq_eq_false_iff_ne]; omega
  have hd2 : ((s.t : Int) == (n : Int)) = false := by rw [beq_eq_false_iff_ne]; omega
  clear hS hp hrt hnt
  obtain ⟨t, hst⟩ : ∃ t, t = s.t := ⟨_, rfl⟩
  rw [← hst] at k2 ht htn HRS HCS hd1 hd2
  have HT := Lib.hid hst
  clear hst
  have ht0 : (0 : Int) ≤ (t : Int) := Int.natCast_nonneg _
  have htr : (t : Int) < (r : Int) := by omega
  have htn' : (t : Int) < (n : Int) := by omega
  have hrb : (r : Int) ≤ 100000 := by omega
  have hnb : (n : Int) ≤ 100000 := by omega
  go_enter Try.func56, Try.ntmps56
  go_wp2_with fail
  go_quiet (fail)
  go_wp2_with fail
  go_loopw [3, 4, 5] (fun zx zy z wr => ∃ (i : Nat) (o : Option (Nat × Nat)), t ≤ i ∧ i ≤ r ∧ z = .int .i64 i ∧ zx = .int .i64 (optX o) ∧ zy = .int .i64 (optY o) ∧ Hid (o = upto (leastRow s.a t n) none t i) ∧ Hid (∀ x y, o = some (x, y) → x < r ∧ y < n) ∧ ∃ q, wr = w.drewN q) (fun _ _ z _ => r - (intOf z).toNat)
  case atStart => exact ⟨t, none, by omega, by omega, rfl, rfl, rfl, Lib.hid (by rw [upto_self]), Lib.hid (fun x y h => by cases h), by first | exact ⟨_, rfl⟩ | exact ex_drewN⟩
  case round =>
    obtain ⟨i, o, hi1, hi2, rfl, rfl, rfl, HO, HOB, q, rfl⟩ := hrel
    have hi0 : (0 : Int) ≤ (i : Int) := Int.natCast_nonneg _
    by_cases hlt : i < r
    · have hlt' : (i : Int) < (r : Int) := by omega
      go_wp2_with fail
      go_loopw [3, 4, 6] (fun zx zy z wr => ∃ (j : Nat) (o' : Option (Nat × Nat)), t ≤ j ∧ j ≤ n ∧ z = .int .i64 j ∧ zx = .int .i64 (optX o') ∧ zy = .int .i64 (optY o') ∧ Hid (o' = upto (better s.a i) o t j) ∧ Hid (∀ x y, o' = some (x, y) → x < r ∧ y < n) ∧ ∃ q, wr = w.drewN q) (fun _ _ z _ => n - (intOf z).toNat)
      case atStart => exact ⟨t, o, by omega, by omega, rfl, rfl, rfl, Lib.hid (by rw [upto_self]), HOB, by first | exact ⟨_, rfl⟩ | exact ex_drewN⟩
      case round =>
        obtain ⟨j, o', hj1, hj2, rfl, rfl, rfl, HO', HOB', q', rfl⟩ := hrel
        have hj0 : (0 : Int) ≤ (j : Int) := Int.natCast_nonneg _
        by_cases hjl : j < n
        · have hjl' : (j : Int) < (n : Int) := by omega
          obtain ⟨bi, ci, q1, q2, q3, q4⟩ := HLOOK.out i j hlt hjl
          have hq3 : (n : Int) ≤ (ci : Int) := by omega
          have hbd := HBD.out i j
          have HSUCC : Hid (upto (better s.a i) o t (j + 1) = better s.a i o' j) := Lib.hid (by rw [upto_succ _ _ hj1, ← HO'.out])
          have HZ := Lib.hid (@better_zero s.a i j o')
          have HNN := Lib.hid (@better_none s.a i j)
          have HLT := Lib.hid (fun x y => @better_lt s.a i j x y)
          have HGE := Lib.hid (fun x y => @better_ge s.a i j x y)
          generalize hx : ent s.a i j = x at *
          obtain ⟨m, hm⟩ : ∃ m, m = x.natAbs := ⟨_, rfl⟩
          have HSZ : Hid (∀ W, Calls Try.prog 70 #[.int .i64 x] W fun e w' => e = .returned (.int .i64 (m : Int)) ∧ W = w') := Lib.hid fun W => by rw [hm]; exact size70_any x W (by omega) (by omega)
          have hmb : (m : Int) ≤ 1000000000 := by omega
          have HM := Lib.hid hm
          clear hx hbd
          by_cases hx0 : x = 0
          · have hd3 : decide ((0 : Int) < (m : Int)) = false := decide_eq_false (by omega)
            have hd4 : decide (0 < m) = false := decide_eq_false (by omega)
            have HX0 := Lib.hid hx0
            clear hx0 hm
            go_wp2_with (go_at_call 70; (refine (HSZ.out _).mono ?_); rintro e w' ⟨rfl, rfl⟩)
            go_roundw
            case rel => exact ⟨j + 1, o', by omega, by omega, by go_num, rfl, rfl, Lib.hid (by rw [HSUCC.out]; exact (HZ.out HX0.out).symm), HOB', by first | exact ⟨_, rfl⟩ | exact ex_drewN⟩
            case measure => simp [intOf]; omega
          · have hd3 : decide ((0 : Int) < (m : Int)) = true := decide_eq_true (by omega)
            have hd4 : decide (0 < m) = true := decide_eq_true (by omega)
            have HX0 := Lib.hid hx0
            clear hx0 hm
            have HIJ : Hid (∀ x y, some (i, j) = some (x, y) → x < r ∧ y < n) := Lib.hid fun x y h => by cases h; exact ⟨hlt, hjl⟩
            rcases o' with _ | ⟨p, pq⟩
            · have hox : optX none = -1 := rfl
              have hoy : optY none = -1 := rfl
              rw [hox, hoy]
              clear hox hoy
              go_wp2_with (go_at_call 70; (refine (HSZ.out _).mono ?_); rintro e w' ⟨rfl, rfl⟩)
              go_roundw
              case rel => exact ⟨j + 1, some (i, j), by omega, by omega, by go_num, rfl, rfl, Lib.hid (by rw [HSUCC.out]; exact (HNN.out HX0.out).symm), HIJ, by first | exact ⟨_, rfl⟩ | exact ex_drewN⟩
              case measure => simp [intOf]; omega
            · have hox : optX (some (p, pq)) = (p : Int) := rfl
              have hoy : optY (some (p, pq)) = (pq : Int) := rfl
              rw [hox, hoy]
              clear hox hoy
              obtain ⟨hpr, hpn⟩ := HOB'.out p pq rfl
              obtain ⟨bp, cp, u1, u2, u3, u4⟩ := HLOOK.out p pq hpr hpn
              have hbd2 := HBD.out p pq
              have HLT2 := Lib.hid (HLT.out p pq)
              have HGE2 := Lib.hid (HGE.out p pq)
              generalize hy : ent s.a p pq = y at *
              obtain ⟨m2, hm2⟩ : ∃ m2, m2 = y.natAbs := ⟨_, rfl⟩
              have HSZ2 : Hid (∀ W, Calls Try.prog 70 #[.int .i64 y] W fun e w' => e = .returned (.int .i64 (m2 : Int)) ∧ W = w') := Lib.hid fun W => by rw [hm2]; exact size70_any y W (by omega) (by omega)
              have hmb2 : (m2 : Int) ≤ 1000000000 := by omega
              have HM2 := Lib.hid hm2
              have hp0 : (0 : Int) ≤ (p : Int) := Int.natCast_nonneg _
              have hpq0 : (0 : Int) ≤ (pq : Int) := Int.natCast_nonneg _
              have hp1 : (p : Int) < (r : Int) := by omega
              have hpq1 : (pq : Int) < (n : Int) := by omega
              have hd5 : decide ((p : Int) < 0) = false := decide_eq_false (by omega)
              have hu3 : (n : Int) ≤ (cp : Int) := by omega
              clear hy hbd2 hm2
              by_cases hmm : m < m2
              · have hd6 : decide (m < m2) = true := decide_eq_true hmm
                have hd7 : decide ((m : Int) < (m2 : Int)) = true := decide_eq_true (by omega)
                go_wp2_with (go_at_call 70; (first | (with_reducible refine (HSZ.out _).mono ?_) | (with_reducible refine (HSZ2.out _).mono ?_)); rintro e w' ⟨rfl, rfl⟩)
                go_roundw
                case rel => exact ⟨j + 1, some (i, j), by omega, by omega, by go_num, rfl, rfl, Lib.hid (by rw [HSUCC.out]; exact (HLT2.out HX0.out (by rw [← HM.out, ← HM2.out]; exact hmm)).symm), HIJ, by first | exact ⟨_, rfl⟩ | exact ex_drewN⟩
                case measure => simp [intOf]; omega
              · have hd6 : decide (m < m2) = false := decide_eq_false hmm
                have hd7 : decide ((m : Int) < (m2 : Int)) = false := decide_eq_false (by omega)
                go_wp2_with (go_at_call 70; (first | (with_reducible refine (HSZ.out _).mono ?_) | (with_reducible refine (HSZ2.out _).mono ?_)); rintro e w' ⟨rfl, rfl⟩)
                go_roundw
                case rel => exact ⟨j + 1, some (p, pq), by omega, by omega, by go_num, rfl, rfl, Lib.hid (by rw [HSUCC.out]; exact (HGE2.out (by rw [← HM.out, ← HM2.out]; exact hmm)).symm), HOB', by first | exact ⟨_, rfl⟩ | exact ex_drewN⟩
                case measure => simp [intOf]; omega
        · obtain rfl : j = n := by omega
          go_wp2_with fail
          go_roundw
          case rel => exact ⟨i + 1, o', by omega, by omega, by go_num, rfl, rfl, Lib.hid (by rw [HO'.out, upto_succ _ _ hi1, ← HO.out]; rfl), HOB', by first | exact ⟨_, rfl⟩ | exact ex_drewN⟩
          case measure => simp [intOf]; omega
    · obtain rfl : i = r := by omega
      have HLE : Hid (o = least s.a s.t i n) := Lib.hid (by rw [← HT.out]; exact HO.out)
      have HK : Hid (∀ q, Below w.heap.size w (w.drewN q)) := Lib.hid fun q => below_drewN (Below.refl _ _) q
      rcases o with _ | ⟨p, pq⟩
      · have hox : optX none = -1 := rfl
        have hoy : optY none = -1 := rfl
        rw [hox, hoy]
        clear hox hoy
        go_wp2_with fail
        go_ret
        exact .inl ⟨HLE.out.symm, rfl, HS.out.drewN _, (Ch.refl base w).drewN _⟩
      · have hox : optX (some (p, pq)) = (p : Int) := rfl
        have hoy : optY (some (p, pq)) = (pq : Int) := rfl
        rw [hox, hoy]
        clear hox hoy
        obtain ⟨hpr, hpn⟩ := HOB.out p pq rfl
        have hp0 : (0 : Int) ≤ (p : Int) := Int.natCast_nonneg _
        have hd5 : decide ((p : Int) < 0) = false := decide_eq_false (by omega)
        have HR := Lib.hid (HRS.out p hpr)
        have HC := Lib.hid (HCS.out p pq hpr hpn)
        go_wp2_with (first
          | (go_at_call 71; (refine (HR.out _ (HK.out _)).mono ?_); rintro e w1 ⟨rfl, h1, h2⟩; have H1 := Lib.hid h1; have H2 := Lib.hid (((Ch.refl base w).drewN _).trans h2); have hc3 := h1.cell3.1; clear h1 h2)
          | (go_at_call 72; (refine (HC.out _ H1.out (Nat.le_trans hbw H2.out.size)).mono ?_); rintro e w2 ⟨rfl, h3, h4⟩; have H3 := Lib.hid h3; have H4 := Lib.hid (H2.out.trans h4); clear h3 h4))
        go_ret
        exact .inr ⟨p, pq, HLE.out.symm, rfl, by show Wk 66 b base _ ((s.swR s.t p).swC s.t pq) (.int .i64 (s.t : Int)); rw [← HT.out]; exact H3.out, H4.out⟩
end Go.Proofs
