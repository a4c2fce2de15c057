/- Letter and WordOf; closed facts on the relators of the known groups; The walk of CollectEval. -/
import Derived.Test.YtnhoiompdjabbaaD1
namespace Go.Proofs
open Go.RowKit Go.Proofs.Pc

/-- the letter that a number selects -/
def ltr (c : Int) : Int := if c % 2 = 0 then c / 2 + 1 else -(c / 2 + 1)
def wordD (n : Nat) (l : List Int) : List Int := l.map fun x => ltr (x % (2 * (n : Int)))
theorem ltr_good {K : PcD} (hn : 0 < K.n) (x : Int) : goodL K (ltr (x % (2 * (K.n : Int)))) := by
  have h1 := Int.emod_nonneg x (show (2 * (K.n : Int)) ≠ 0 by omega)
  have h2 := Int.emod_lt_of_pos x (show 0 < 2 * (K.n : Int) by omega)
  generalize x % (2 * (K.n : Int)) = c at *
  unfold goodL ltr
  split <;> omega
theorem wordD_good {K : PcD} (hn : 0 < K.n) (l : List Int) : ∀ k, k < (wordD K.n l).length → goodL K ((wordD K.n l).getD k 0) := fun k hk => by
  have hk' : k < l.length := by simpa [wordD] using hk
  have : (wordD K.n l).getD k 0 = ltr (l.getD k 0 % (2 * (K.n : Int))) := by
    simp [wordD, List.getD_eq_getElem?_getD, hk']
  rw [this]
  exact ltr_good hn _

set_option maxRecDepth 100000 in
set_option maxHeartbeats 400000 in
theorem letter_any (w : World) (c : Int) (h0 : 0 ≤ c) (h1 : c ≤ 1000000) : Calls Try.prog 82 #[.int .i64 c] w fun e w' => e = .returned (.int .i64 (ltr c)) ∧ w = w' := by
  by_cases h : c % 2 = 0
  · have d1 : (c % 2 == 0) = true := beq_iff_eq.2 h
    have HL : Hid (ltr c = c / 2 + 1) := Lib.hid (if_pos h)
    clear h
    go_enter Try.func82, Try.ntmps82
    go_wp2_with fail
    go_ret
    exact ⟨by rw [HL.out]; rfl, rfl⟩
  · have d1 : (c % 2 == 0) = false := beq_eq_false_iff_ne.2 h
    have HL : Hid (ltr c = -(c / 2 + 1)) := Lib.hid (if_neg h)
    clear h
    go_enter Try.func82, Try.ntmps82
    go_wp2_with fail
    go_ret
    exact ⟨by rw [HL.out]; rfl, rfl⟩
/-- one letter is appended to an owned word -/
theorem app_letter (w : World) (base : Nat) (A : Option Addr) (c : Nat) (x : List Int) (z : Int) (h1 : w.ownsRow base 3 1 (.slice A x.length c) x.length (ints x)) (hx : x.length ≤ 100000) (hb : base ≤ w.heap.size) :
    ∃ A' c' w', (Builtin.append_ #[50, 50] 50 #[.slice A x.length c, .slice (some ⟨w.heap.size, 0, none⟩) 1 1]).run Try.prog (w.alloc (.cells #[.int .i64 z] 3)) = .ok (.slice A' (x ++ [z]).length c') w' ∧ w'.ownsRow base 3 1 (.slice A' (x ++ [z]).length c') (x ++ [z]).length (ints (x ++ [z])) ∧ Below base w w' := by
  have hal : Below w.heap.size w (w.alloc (.cells #[.int .i64 z] 3)) := (Below.refl _ _).alloc (Nat.le_refl _) _
  have h2 : (w.alloc (.cells #[.int .i64 z] 3)).ownsRow w.heap.size 3 1 (.slice (some ⟨w.heap.size, 0, none⟩) [z].length 1) [z].length (ints [z]) := ⟨rfl, .inr ⟨w.heap.size, 1, #[.int .i64 z], rfl, Nat.le_refl _, heap_alloc_new w _, Nat.le_refl _, by simp [maxLen], rfl, rfl⟩⟩
  obtain ⟨A', c', w', hr, ho, hg⟩ := run_append_two (w.alloc (.cells #[.int .i64 z] 3)) 50 base w.heap.size A (some ⟨w.heap.size, 0, none⟩) c 1 x [z] (owns_below h1 hal) h2 hx (by simp) (Nat.le_trans hb hal.size)
  refine ⟨A', c', w', hr, ho, (hal.mono hb).grown hg (Nat.le_trans hb hal.size) fun r hr => (owns_block h1 r hr).1⟩

set_option maxRecDepth 100000 in
set_option maxHeartbeats 1000000 in
theorem wordOf_any (w : World) (sv : Value) (l : List Int) (n : Nat) (h : IntsAt w sv l) (hl : l.length ≤ 1000) (hn : 0 < n) (hn2 : n ≤ 1000) :
    Calls Try.prog 45 #[sv, .int .i64 n] w fun e w' => ∃ A c, e = .returned (.slice A (wordD n l).length c) ∧ w'.ownsRow w.heap.size 3 1 (.slice A (wordD n l).length c) (wordD n l).length (ints (wordD n l)) ∧ Below w.heap.size w w' := by
  obtain ⟨A0, c0, rfl, hc1, hc2, hcs⟩ := h.open_
  have HCS := Lib.hid hcs
  have hf := h.2
  have HF := Lib.hid hf
  have hn0 : (0 : Int) < (n : Int) := by omega
  have hn3 : (n : Int) ≤ 1000 := by omega
  clear h hcs hf
  go_enter Try.func45, Try.ntmps45
  go_wp2_with fail
  go_loopw [5, 6] (fun s5 s6 wr => ∃ q : Nat, q ≤ l.length ∧ s6 = .int .i64 q ∧ (∃ A c, s5 = .slice A (wordD n (l.take q)).length c ∧ wr.ownsRow w.heap.size 3 1 s5 (wordD n (l.take q)).length (ints (wordD n (l.take q)))) ∧ Below w.heap.size w wr) (fun _ s _ => l.length - (intOf s).toNat)
  case atStart => exact ⟨0, Nat.zero_le _, rfl, ⟨none, 0, rfl, World.ownsRow_nil _ _ _ _⟩, Below.refl _ _⟩
  case round =>
    obtain ⟨q, hq, rfl, ⟨A, c, rfl, ho⟩, hB⟩ := hrel
    have HO := Lib.hid ho
    have HB := Lib.hid hB
    by_cases hlt : q < l.length
    · obtain ⟨b, off, rfl, hc⟩ := HCS.out (by omega)
      have hcq := (KC.of_below hB).cell (hc q hlt)
      have hq0 : (0 : Int) ≤ (q : Int) := Int.natCast_nonneg _
      have hq1 : (q : Int) < (l.length : Int) := by omega
      have hfq := HF.out.at_ q
      have hTk : wordD n (l.take (q + 1)) = wordD n (l.take q) ++ [ltr (l.getD q 0 % (2 * (n : Int)))] := by
        rw [take_snoc_D l q hlt 0]
        simp [wordD]
      have hWl : (wordD n (l.take q)).length ≤ 100000 := by simp [wordD]; omega
      have HTK := Lib.hid hTk
      generalize l.getD q 0 = z at *
      generalize wordD n (l.take q) = W0 at *
      have h1 := Int.emod_nonneg z (show (2 * (n : Int)) ≠ 0 by omega)
      have h2 := Int.emod_lt_of_pos z (show 0 < 2 * (n : Int) by omega)
      have HT := Lib.hid (turn_any wr z (2 * (n : Int)) (by omega) (by omega) hfq)
      have HL := Lib.hid (letter_any wr (z % (2 * (n : Int))) h1 (by omega))
      obtain ⟨A', c', w', hr, ho', hb'⟩ := app_letter wr w.heap.size A c W0 (ltr (z % (2 * (n : Int)))) ho hWl hB.size
      rw [← hTk] at hr ho'
      have HR := Lib.hid hr
      have HO' := Lib.hid ho'
      have HB' := Lib.hid (hB.trans hb')
      clear hTk hr ho' hb' hc ho hB
      generalize z % (2 * (n : Int)) = t at *
      generalize ltr t = u at *
      go_wp2_with (first
        | (go_at_call 46; (refine HT.out.mono ?_); rintro e w' ⟨rfl, rfl⟩)
        | (go_at_call 82; (refine HL.out.mono ?_); rintro e w' ⟨rfl, rfl⟩)
        | ((with_reducible refine wpList_sel 23 ?_); refine wpList_val rfl (r_app (.tmp 13) (.tmp 22) 50 rfl rfl rfl HR.out) ?_))
      go_roundw
      case rel => exact ⟨q + 1, by omega, by go_num, ⟨_, _, rfl, HO'.out⟩, HB'.out⟩
      case measure => simp [intOf]; omega
    · obtain rfl : q = l.length := by omega
      rw [List.take_length] at HO
      have HTL : Hid (wordD n (l.take l.length) = wordD n l) := Lib.hid (by rw [List.take_length])
      rw [HTL.out]
      clear ho hB
      generalize hWd : wordD n l = W at *
      have HWD := Lib.hid hWd
      clear hWd
      go_wp2_with fail
      go_ret
      rw [HWD.out]
      exact ⟨_, _, rfl, HO.out, HB.out⟩

/-- the relators of a group lead to the identity -/
def relB (K : PcD) : Bool := (rels K).all fun w => decide (w.length ≤ 1000) && (w.all fun x => decide (goodL K x)) && decide (evW K w = zV K)
theorem relB_ok : ∀ r, r < 12 → relB (knownD r) = true ∧ (0 < (knownD r).n → relsD (knownD r) = (0, ((knownD r).n : Int), rels (knownD r))) ∧ ((rels (knownD r)).length : Int) = ((knownD r).n : Int) * (((knownD r).n : Int) + 1) / 2 := by decide +kernel
theorem getD_mem {l : List Int} {k : Nat} (hk : k < l.length) : l.getD k 0 ∈ l := by
  rw [List.getD_eq_getElem?_getD, List.getElem?_eq_getElem hk]
  exact List.getElem_mem hk
theorem relB_at {K : PcD} (h : relB K = true) {i : Nat} (hi : i < (rels K).length) : ((rels K).getD i []).length ≤ 1000 ∧ (∀ k, k < ((rels K).getD i []).length → goodL K (((rels K).getD i []).getD k 0)) ∧ evW K ((rels K).getD i []) = zV K := by
  unfold relB at h
  rw [List.all_eq_true] at h
  have hm : (rels K).getD i [] ∈ rels K := by
    rw [List.getD_eq_getElem?_getD, List.getElem?_eq_getElem hi]; exact List.getElem_mem hi
  have := h _ hm
  simp only [Bool.and_eq_true, decide_eq_true_eq, List.all_eq_true] at this
  exact ⟨this.1.1, fun k hk => this.1.2 _ (getD_mem hk), this.2⟩
end Go.Proofs
namespace Go.Proofs
open Go.RowKit Go.Proofs.Pc

theorem ints_of_owns {w : World} {base : Nat} {v : Value} {xs : List Int} (h : w.ownsRow base 3 1 v xs.length (ints xs)) (hf : Fits xs) : IntsAt w v xs := ⟨sl_of_owns h, hf⟩
theorem fits_good {K : PcD} (hn : K.n ≤ 1000) {xs : List Int} (h : ∀ k, k < xs.length → goodL K (xs.getD k 0)) : Fits xs := fun x hx => by
  obtain ⟨i, hi, rfl⟩ := List.getElem_of_mem hx
  have := h i hi
  rw [List.getD_eq_getElem?_getD, List.getElem?_eq_getElem hi] at this
  unfold goodL at this
  simp only [Option.getD_some] at this
  omega
theorem good_app {K : PcD} {xs ys : List Int} (h : ∀ k, k < xs.length → goodL K (xs.getD k 0)) (h' : ∀ k, k < ys.length → goodL K (ys.getD k 0)) : ∀ k, k < (xs ++ ys).length → goodL K ((xs ++ ys).getD k 0) := fun k hk => by
  rcases Nat.lt_or_ge k xs.length with h1 | h1
  · have := h k h1
    simpa [List.getD_eq_getElem?_getD, List.getElem?_append_left h1] using this
  · have := h' (k - xs.length) (by simp at hk; omega)
    simpa [List.getD_eq_getElem?_getD, List.getElem?_append_right h1] using this
theorem ev_one {K : PcD} (hv : Valid K) {q : Nat} (_hq : q < K.n) : evW K [(q : Int) + 1] = uP K q 1 := by
  show stepW K _ (zV K) = _
  unfold stepW gen
  have h0 : (0 : Int) < ([(q : Int) + 1] : List Int).getD 0 0 := by show (0 : Int) < (q : Int) + 1; omega
  rw [if_pos h0]
  have : (([(q : Int) + 1] : List Int).getD 0 0 - 1).toNat = q := by simp
  rw [this]
  exact zero_mul hv (NV_c hv q)

set_option maxRecDepth 100000 in
set_option maxHeartbeats 8000000 in
theorem eval_walk (w : World) (which : Int) (v1 v2 : Value) (l1 l2 : List Int) (hw : -9223372036854775808 ≤ which ∧ which ≤ 9223372036854775807) (hl1 : IntsAt w v1 l1) (hl2 : IntsAt w v2 l2) :
    Calls Try.prog 9 #[.int .i64 which, v1, v2] w fun e w' => e = .returned (.bool true) ∧ Below w.heap.size w w' := by
  obtain ⟨X1, x1, rfl, -⟩ := hl1.open_
  obtain ⟨X2, x2, rfl, -⟩ := hl2.open_
  have hmx1 : l1.length ≤ 9223372036854775807 := by obtain ⟨A, c, e, h1, h2, -⟩ := hl1.open_; omega
  have hmx2 : l2.length ≤ 9223372036854775807 := by obtain ⟨A, c, e, h1, h2, -⟩ := hl2.open_; omega
  have HL1 := Lib.hid hl1
  have HL2 := Lib.hid hl2
  obtain ⟨K, hK⟩ : ∃ K, K = knownD (which % 12).toNat := ⟨_, rfl⟩
  have kg : KG K := by rw [hK]; exact kg_of (by omega)
  have hrl : relB K = true ∧ (0 < K.n → relsD K = (0, (K.n : Int), rels K)) ∧ ((rels K).length : Int) = (K.n : Int) * ((K.n : Int) + 1) / 2 := by rw [hK]; exact relB_ok _ (by omega)
  have HKE := Lib.hid hK
  obtain ⟨he, hv, hc, hs, hp5, hn4⟩ := kg
  have HE := Lib.hid he; have HC := Lib.hid hc; have HSM := Lib.hid hs
  have hlen : K.orders.length ≤ 4 := hn4
  have HRL := Lib.hid hrl
  clear hK he hc hs hl1 hl2 hrl
  by_cases g1 : 20 < l1.length
  · have d20 : decide ((20 : Int) < (l1.length : Int)) = true := decide_eq_true (by omega)
    go_enter Try.func9, Try.ntmps9
    go_wp2_with fail
    refine (kn_walk _).mono ?_
    rintro e w1 ⟨rfl, hb⟩
    have HB := Lib.hid hb; clear hb
    go_wp2_with fail
    refine (known_any _ which hw).mono ?_
    rw [← HKE.out]
    rintro e w2 ⟨⟨u0, u1, u2, rfl, hp⟩, hb⟩
    obtain ⟨⟨B0, d0, rfl⟩, ⟨B1, d1, rfl⟩, B2, d2, rfl⟩ := pc_slices hp
    have hal : Below w2.heap.size w2 (w2.alloc (.cells #[.slice B0 K.orders.length d0, .slice B1 K.powers.length d1, .slice B2 K.conj.length d2] 26)) := (Below.refl _ _).alloc (Nat.le_refl _) _
    have HP := Lib.hid (hp.below hal)
    have HBX := Lib.hid (heap_alloc_new w2 (.cells #[.slice B0 K.orders.length d0, .slice B1 K.powers.length d1, .slice B2 K.conj.length d2] 26))
    have HB := Lib.hid (HB.out.trans ((hb.trans (hal.mono hb.size)).mono HB.out.size))
    clear hp hb hal
    go_wp2_with fail
    go_ret
    exact ⟨rfl, HB.out⟩
  have d20 : decide ((20 : Int) < (l1.length : Int)) = false := decide_eq_false (by omega)
  by_cases g2 : 20 < l2.length
  · have d21 : decide ((20 : Int) < (l2.length : Int)) = true := decide_eq_true (by omega)
    go_enter Try.func9, Try.ntmps9
    go_wp2_with fail
    refine (kn_walk _).mono ?_
    rintro e w1 ⟨rfl, hb⟩
    have HB := Lib.hid hb; clear hb
    go_wp2_with fail
    refine (known_any _ which hw).mono ?_
    rw [← HKE.out]
    rintro e w2 ⟨⟨u0, u1, u2, rfl, hp⟩, hb⟩
    obtain ⟨⟨B0, d0, rfl⟩, ⟨B1, d1, rfl⟩, B2, d2, rfl⟩ := pc_slices hp
    have hal : Below w2.heap.size w2 (w2.alloc (.cells #[.slice B0 K.orders.length d0, .slice B1 K.powers.length d1, .slice B2 K.conj.length d2] 26)) := (Below.refl _ _).alloc (Nat.le_refl _) _
    have HP := Lib.hid (hp.below hal)
    have HBX := Lib.hid (heap_alloc_new w2 (.cells #[.slice B0 K.orders.length d0, .slice B1 K.powers.length d1, .slice B2 K.conj.length d2] 26))
    have HB := Lib.hid (HB.out.trans ((hb.trans (hal.mono hb.size)).mono HB.out.size))
    clear hp hb hal
    go_wp2_with fail
    go_ret
    exact ⟨rfl, HB.out⟩
  have d21 : decide ((20 : Int) < (l2.length : Int)) = false := decide_eq_false (by omega)
  by_cases g3 : K.orders.length = 0
  · have d22 : ((K.orders.length : Int) == 0) = true := beq_iff_eq.2 (by omega)
    have G3 := Lib.hid g3
    clear g3
    go_enter Try.func9, Try.ntmps9
    go_wp2_with fail
    refine (kn_walk _).mono ?_
    rintro e w1 ⟨rfl, hb⟩
    have HB := Lib.hid hb; clear hb
    go_wp2_with fail
    refine (known_any _ which hw).mono ?_
    rw [← HKE.out]
    rintro e w2 ⟨⟨u0, u1, u2, rfl, hp⟩, hb⟩
    obtain ⟨⟨B0, d0, rfl⟩, ⟨B1, d1, rfl⟩, B2, d2, rfl⟩ := pc_slices hp
    have hal : Below w2.heap.size w2 (w2.alloc (.cells #[.slice B0 K.orders.length d0, .slice B1 K.powers.length d1, .slice B2 K.conj.length d2] 26)) := (Below.refl _ _).alloc (Nat.le_refl _) _
    have HP := Lib.hid (hp.below hal)
    have HBX := Lib.hid (heap_alloc_new w2 (.cells #[.slice B0 K.orders.length d0, .slice B1 K.powers.length d1, .slice B2 K.conj.length d2] 26))
    have HB := Lib.hid (HB.out.trans ((hb.trans (hal.mono hb.size)).mono HB.out.size))
    clear hp hb hal
    go_wp2_with fail
    go_ret
    exact ⟨rfl, HB.out⟩
  have d22 : ((K.orders.length : Int) == 0) = false := beq_eq_false_iff_ne.2 (by omega)
  go_enter Try.func9, Try.ntmps9
  go_wp2_with fail
  refine (kn_walk _).mono ?_
  rintro e w1 ⟨rfl, hb⟩
  have HB := Lib.hid hb; clear hb
  go_wp2_with fail
  refine (known_any _ which hw).mono ?_
  rw [← HKE.out]
  rintro e w2 ⟨⟨u0, u1, u2, rfl, hp⟩, hb⟩
  obtain ⟨⟨B0, d0, rfl⟩, ⟨B1, d1, rfl⟩, B2, d2, rfl⟩ := pc_slices hp
  have hal : Below w2.heap.size w2 (w2.alloc (.cells #[.slice B0 K.orders.length d0, .slice B1 K.powers.length d1, .slice B2 K.conj.length d2] 26)) := (Below.refl _ _).alloc (Nat.le_refl _) _
  have HP := Lib.hid (hp.below hal)
  have HBX := Lib.hid (heap_alloc_new w2 (.cells #[.slice B0 K.orders.length d0, .slice B1 K.powers.length d1, .slice B2 K.conj.length d2] 26))
  have HB := Lib.hid (HB.out.trans ((hb.trans (hal.mono hb.size)).mono HB.out.size))
  clear hp hb hal
  go_wp2_with fail
  refine (new_good _ _ _ _ _ HP.out HE.out HC.out).mono ?_
  rintro e w3 ⟨⟨bg, br, rfl, hg, -⟩, hb⟩
  have HG := Lib.hid hg
  have HP := Lib.hid (HP.out.below hb)
  have HBX := Lib.hid ((hb.block _ (Array.getElem?_eq_some_iff.1 HBX.out).1).trans HBX.out)
  have HB := Lib.hid (HB.out.trans (hb.mono HB.out.size))
  have b0 := (cell_of_row _ _ 0 _ _ _ HBX.out).trans (show _ = some (Value.slice B0 K.orders.length d0) from rfl)
  have b1 := (cell_of_row _ _ 1 _ _ _ HBX.out).trans (show _ = some (Value.slice B1 K.powers.length d1) from rfl)
  have b2 := (cell_of_row _ _ 2 _ _ _ HBX.out).trans (show _ = some (Value.slice B2 K.conj.length d2) from rfl)
  clear hg hb
  have hn0 : 0 < K.n := by show 0 < K.orders.length; omega
  have HRD := Lib.hid (HRL.out.2.1 hn0)
  have hRB := HRL.out.1
  have dR : (((rels K).length : Int) != wrap64 ((wrap64 ((K.orders.length : Int) * ((K.orders.length : Int) + 1))).tdiv 2)) = false := by
    have h1 : ((rels K).length : Int) = (K.orders.length : Int) * ((K.orders.length : Int) + 1) / 2 := HRL.out.2.2
    rw [h1]
    have h2 : K.orders.length = 1 ∨ K.orders.length = 2 ∨ K.orders.length = 3 ∨ K.orders.length = 4 := by omega
    rcases h2 with h2 | h2 | h2 | h2 <;> rw [h2] <;> decide +kernel
  have hR10 : (rels K).length ≤ 10 := by
    have h1 : ((rels K).length : Int) = (K.orders.length : Int) * ((K.orders.length : Int) + 1) / 2 := HRL.out.2.2
    have h2 : K.orders.length = 1 ∨ K.orders.length = 2 ∨ K.orders.length = 3 ∨ K.orders.length = 4 := by omega
    rcases h2 with h2 | h2 | h2 | h2 <;> rw [h2] at h1 <;> omega
  have HRA := Lib.hid (fun i (hi : i < (rels K).length) => relB_at hRB hi)
  clear hRB HRL
  generalize rels K = R at *
  go_wp2_with fail
  refine (rel_any _ _ _ _ _ HP.out).mono ?_
  intro e w4 hr
  obtain ⟨A4, c4, rfl, hta, hb⟩ := hr.open_ HRD.out
  have hal : Below w4.heap.size w4 (w4.alloc (.cells #[.int .i64 K.n, .slice A4 R.length c4] 46)) := (Below.refl _ _).alloc (Nat.le_refl _) _
  have hb := hb.trans (hal.mono hb.size)
  have HTA := Lib.hid (kept_tab.below hta hal)
  have HBR := Lib.hid (heap_alloc_new w4 (.cells #[.int .i64 K.n, .slice A4 R.length c4] 46))
  have HG := Lib.hid (HG.out.below hb)
  have HB := Lib.hid (HB.out.trans (hb.mono HB.out.size))
  have hmk := make22 (w4.alloc (.cells #[.int .i64 K.n, .slice A4 R.length c4] 46)) K.orders.length (by omega)
  rw [World.size_alloc] at hmk
  clear hr hta hal hb b0 b1 b2 HRD
  go_wp2_with fail
  have hb5 : Below (w4.alloc (.cells #[.int .i64 K.n, .slice A4 R.length c4] 46)).heap.size (w4.alloc (.cells #[.int .i64 K.n, .slice A4 R.length c4] 46)) ((w4.alloc (.cells #[.int .i64 K.n, .slice A4 R.length c4] 46)).alloc (.cells (Array.replicate K.orders.length (.int .i64 0)) 3)) := (Below.refl _ _).alloc (Nat.le_refl _) _
  have hid0 : IntsAt ((w4.alloc (.cells #[.int .i64 K.n, .slice A4 R.length c4] 46)).alloc (.cells (Array.replicate K.orders.length (.int .i64 0)) 3)) (.slice (some ⟨w4.heap.size + 1, 0, none⟩) K.orders.length K.orders.length) (zV K) := by
    have := (xsAt_zero (w4.alloc (.cells #[.int .i64 K.n, .slice A4 R.length c4] 46)) K.orders.length).ints (by simp) (Nat.le_refl K.orders.length) (by omega) (fun x hx => by rw [List.eq_of_mem_replicate hx]; omega)
    rwa [World.size_alloc] at this
  have HG := Lib.hid (HG.out.below hb5)
  have HB := Lib.hid (HB.out.trans (hb5.mono HB.out.size))
  have HTA := Lib.hid (kept_tab.below HTA.out hb5)
  have HBR := Lib.hid ((hb5.block _ (Array.getElem?_eq_some_iff.1 HBR.out).1).trans HBR.out)
  have HI := Lib.hid hid0
  have h4s : w4.heap.size + 1 = w4.heap.size + 1 := rfl
  generalize (w4.alloc (.cells #[.int .i64 K.n, .slice A4 R.length c4] 46)).alloc (.cells (Array.replicate K.orders.length (.int .i64 0)) 3) = w5 at *
  clear hb5 hid0 hmk dR h4s
  go_loopw [15] (fun s wr => ∃ q : Nat, q ≤ R.length ∧ s = .int .i64 q ∧ Below w5.heap.size w5 wr) (fun s _ => R.length - (intOf s).toNat)
  case atStart => exact ⟨0, Nat.zero_le _, rfl, Below.refl _ _⟩
  case round =>
    obtain ⟨q, hq, rfl, hB⟩ := hrel
    have HBp := Lib.hid hB
    have HGp := Lib.hid (HG.out.below hB)
    have HIp := Lib.hid (HI.out.below hB)
    have cr1 := (cell_of_row _ _ 1 _ _ _ ((hB.block _ (Array.getElem?_eq_some_iff.1 HBR.out).1).trans HBR.out)).trans (show _ = some (Value.slice A4 R.length c4) from rfl)
    by_cases hlt : q < R.length
    · obtain ⟨r1, r2, r3⟩ := HRA.out q hlt
      obtain ⟨b4, o4, A6, c6, rfl, hcw, hIw⟩ := tab_cell HTA.out hlt
      have cw := (KC.of_below hB).cell hcw
      have hIw := hIw.below hB
      have hq0 : (0 : Int) ≤ (q : Int) := Int.natCast_nonneg _
      have hq1 : (q : Int) < (R.length : Int) := by omega
      have HEV := Lib.hid (eval_live hv wr bg br HGp.out.live HGp.out.rules _ (R.getD q []) hIw (by omega) r2)
      rw [r3] at HEV
      generalize R.getD q [] = W6 at *
      clear r1 r2 r3 hcw hIw hB
      go_wp2_with fail
      refine HEV.out.mono ?_
      rintro e w7 ⟨⟨v, rfl, hx⟩, hb⟩
      obtain ⟨A7, c7, rfl, -⟩ := hx.open_
      have HIq := Lib.hid (HIp.out.below hb)
      have HZ := Lib.hid hx
      have HBq := Lib.hid (HBp.out.trans (hb.mono HBp.out.size))
      clear hx hb
      go_wp2_with fail
      refine (equal_yes _ _ _ (zV K) (zV K) HZ.out HIq.out rfl).mono ?_
      rintro e w8 ⟨rfl, hb⟩
      have HBq := Lib.hid (HBq.out.trans (hb.mono HBq.out.size))
      clear hb
      go_wp2_with fail
      go_roundw
      case rel => exact ⟨q + 1, by omega, by go_num, HBq.out⟩
      case measure => simp [intOf]; omega
    · obtain rfl : q = R.length := by omega
      clear hB
      go_wp2_with fail
      clear cr1
      have hs5 : w5.heap.size ≤ wr.heap.size := HBp.out.size
      obtain ⟨wb, hwb⟩ : ∃ wb, wb = wr := ⟨_, rfl⟩
      subst hwb
      go_loopw [18] (fun s wr => ∃ q : Nat, q ≤ K.orders.length ∧ s = .int .i64 q ∧ Below wb.heap.size wb wr) (fun s _ => K.orders.length - (intOf s).toNat)
      case atStart => exact ⟨0, Nat.zero_le _, rfl, Below.refl _ _⟩
      case round =>
        obtain ⟨q, hq, rfl, hB⟩ := hrel
        have HBr := Lib.hid hB
        have HGr := Lib.hid (HGp.out.below hB)
        by_cases hlt : q < K.orders.length
        · have hqn : q < K.n := hlt
          have hal : Below wr.heap.size wr (wr.alloc (.cells #[.int .i64 ((q : Int) + 1)] 3)) := (Below.refl _ _).alloc (Nat.le_refl _) _
          have HGA := Lib.hid (HGr.out.below hal)
          have hq0 : (0 : Int) ≤ (q : Int) := Int.natCast_nonneg _
          have hq1 : (q : Int) < (K.orders.length : Int) := by omega
          have HEV := Lib.hid (eval_live hv _ bg br HGA.out.live HGA.out.rules (.slice (some ⟨wr.heap.size, 0, none⟩) 1 1) [(q : Int) + 1] (ints_lit [(q : Int) + 1] (E := 3) (heap_alloc_new wr _) rfl (by decide) (by simp [fitsB]; omega)) (by simp) (fun k hk => by
            have : k = 0 := by simpa using hk
            subst this
            unfold goodL
            have : K.n = K.orders.length := rfl
            simp; omega))
          rw [ev_one hv hqn] at HEV
          have hun := uP_NV hv (i := q) (x := 1) (by omega) (fun h => by have := hv.ord2 q h; omega)
          have HAL := Lib.hid hal
          have HUN := Lib.hid hun
          clear hal hB hun
          go_wp2_with fail
          refine HEV.out.mono ?_
          rintro e w7 ⟨⟨v, rfl, hx⟩, hb⟩
          obtain ⟨A7, c7, rfl, -⟩ := hx.open_
          have hmk := make22 w7 K.orders.length (by omega)
          have hz := xsAt_zero w7 K.orders.length
          have hcz := hz.cell (k := q) (by rw [List.length_replicate]; exact hlt)
          have hfz := hz.frozen q
          have hxu := xsAt_unit (P := K) (e := 1) hz hqn
          have hbz : Below w7.heap.size w7 (w7.alloc (.cells (Array.replicate K.orders.length (.int .i64 0)) 3)) := (Below.refl _ _).alloc (Nat.le_refl _) _
          have hw7 : w7.heap.size < (w7.alloc (.cells (Array.replicate K.orders.length (.int .i64 0)) 3)).heap.size := by simp
          have HZ := Lib.hid (hx.below (hbz.setCell (p := ⟨w7.heap.size, q, none⟩) (Nat.le_refl _) (.int .i64 1)))
          have HXU := Lib.hid hxu
          have HBq := Lib.hid (HBr.out.trans ((HAL.out.trans ((hb.trans (hbz.mono hb.size)).mono HAL.out.size)).mono HBr.out.size))
          have HW7 : Hid (wb.heap.size ≤ w7.heap.size) := Lib.hid (Nat.le_trans HBr.out.size (Nat.le_trans HAL.out.size hb.size))
          generalize hWq : w7.alloc (.cells (Array.replicate K.orders.length (.int .i64 0)) 3) = Wq at *
          clear hx hb hz hxu hbz hWq
          go_wp2_with fail
          have hbs : Below wb.heap.size wb (Wq.setCell ⟨w7.heap.size, q, none⟩ (.int .i64 1)) := HBq.out.setCell (p := ⟨w7.heap.size, q, none⟩) HW7.out _
          have hlu : (uP K q 1).length = K.orders.length := HUN.out.1
          refine (equal_yes _ _ _ (uP K q 1) (uP K q 1) HZ.out (HXU.out.ints hlu (Nat.le_refl _) (by omega) (Pc.NV.fits hv HUN.out)) rfl).mono ?_
          rintro e w8 ⟨rfl, hb⟩
          have HBs := Lib.hid (hbs.trans (hb.mono hbs.size))
          clear hb hbs
          go_wp2_with fail
          go_roundw
          case rel => exact ⟨q + 1, by omega, by go_num, HBs.out⟩
          case measure => simp [intOf]; omega
        · obtain rfl : q = K.orders.length := by omega
          have HWA := Lib.hid (wordOf_any wr _ l1 K.orders.length (HL1.out.below ((HB.out.trans (HBp.out.mono HB.out.size)).trans (HBr.out.mono (HB.out.trans (HBp.out.mono HB.out.size)).size))) (by omega) (by omega) (by omega))
          clear hB
          go_wp2_with fail
          refine HWA.out.mono ?_
          rintro e w9 ⟨A9, c9, rfl, ho9, hb9⟩
          have HWB := Lib.hid (wordOf_any w9 _ l2 K.orders.length (HL2.out.below ((((HB.out.trans (HBp.out.mono HB.out.size)).trans (HBr.out.mono (HB.out.trans (HBp.out.mono HB.out.size)).size))).trans (hb9.mono ((HB.out.trans (HBp.out.mono HB.out.size)).trans (HBr.out.mono (HB.out.trans (HBp.out.mono HB.out.size)).size)).size))) (by omega) (by omega) (by omega))
          have HO9 := Lib.hid ho9
          have HB9 := Lib.hid ((((HB.out.trans (HBp.out.mono HB.out.size)).trans (HBr.out.mono (HB.out.trans (HBp.out.mono HB.out.size)).size))).trans (hb9.mono ((HB.out.trans (HBp.out.mono HB.out.size)).trans (HBr.out.mono (HB.out.trans (HBp.out.mono HB.out.size)).size)).size))
          have HG9 := Lib.hid (HGr.out.below hb9)
          have ga := wordD_good hn0 l1
          have gb := wordD_good hn0 l2
          have hla : (wordD K.n l1).length ≤ 20 := by simp [wordD]; omega
          have hlb : (wordD K.n l2).length ≤ 20 := by simp [wordD]; omega
          have HGA := Lib.hid ga
          have HGB := Lib.hid gb
          have HWN : Hid (wordD K.orders.length l1 = wordD K.n l1 ∧ wordD K.orders.length l2 = wordD K.n l2) := Lib.hid ⟨rfl, rfl⟩
          rw [HWN.out.1] at HO9
          rw [HWN.out.1]
          rw [HWN.out.2] at HWB
          generalize wordD K.n l1 = U at *
          generalize wordD K.n l2 = V at *
          clear ho9 hb9 ga gb HWN
          go_wp2_with fail
          refine HWB.out.mono ?_
          rintro e w10 ⟨A10, c10, rfl, ho10, hb10⟩
          have HG10 := Lib.hid (HG9.out.below hb10)
          have HO9 := Lib.hid (owns_below HO9.out hb10)
          have HO10 := Lib.hid ho10
          have HB10 := Lib.hid (HB9.out.trans (hb10.mono HB9.out.size))
          have fU := fits_good (K := K) (by omega) HGA.out
          have fV := fits_good (K := K) (by omega) HGB.out
          have fUV := fits_good (K := K) (by omega) (good_app HGA.out HGB.out)
          have HIU := Lib.hid (ints_of_owns HO9.out fU)
          have HIV := Lib.hid (ints_of_owns HO10.out fV)
          have HFUV := Lib.hid fUV
          have HE1 := Lib.hid (eval_live hv w10 bg br HG10.out.live HG10.out.rules _ U HIU.out (by omega) HGA.out)
          have HFV := Lib.hid fV
          clear ho10 hb10 fU fV fUV
          go_wp2_with fail
          refine HE1.out.mono ?_
          rintro e w11 ⟨⟨v, rfl, hx⟩, hb⟩
          obtain ⟨A11, c11, rfl, -⟩ := hx.open_
          have HX := Lib.hid hx
          have HG11 := Lib.hid (HG10.out.below hb)
          have HO9 := Lib.hid (owns_below HO9.out hb)
          have HO10 := Lib.hid (owns_below HO10.out hb)
          have HB11 := Lib.hid (HB10.out.trans (hb.mono HB10.out.size))
          have HE2 := Lib.hid (eval_live hv w11 bg br HG11.out.live HG11.out.rules _ V (ints_of_owns HO10.out HFV.out) (by omega) HGB.out)
          clear hx hb
          go_wp2_with fail
          refine HE2.out.mono ?_
          rintro e w12 ⟨⟨v, rfl, hx⟩, hb⟩
          obtain ⟨A12, c12, rfl, -⟩ := hx.open_
          have HY := Lib.hid hx
          have HX := Lib.hid (HX.out.below hb)
          have HG12 := Lib.hid (HG11.out.below hb)
          have ho9 := owns_below HO9.out hb
          have ho10 := owns_below HO10.out hb
          have HB12 := Lib.hid (HB11.out.trans (hb.mono HB11.out.size))
          have hal : Below w12.heap.size w12 (w12.alloc (.cells #[] 3)) := (Below.refl _ _).alloc (Nat.le_refl _) _
          have h0 : (w12.alloc (.cells #[] 3)).ownsRow w12.heap.size 3 1 (.slice (some ⟨w12.heap.size, 0, none⟩) ([] : List Int).length 0) ([] : List Int).length (ints []) := ⟨rfl, .inr ⟨w12.heap.size, 0, #[], rfl, Nat.le_refl _, heap_alloc_new w12 _, Nat.le_refl _, by simp [maxLen], rfl, rfl⟩⟩
          obtain ⟨A13, c13, w13, hr1, ho1, hg1⟩ := run_append_two (w12.alloc (.cells #[] 3)) 50 _ _ _ _ _ _ [] U h0 (owns_below ho9 hal) (by simp) (by omega) hal.size
          have hb13 : Below w12.heap.size w12 w13 := hal.grown hg1 hal.size fun r hr => (owns_block h0 r hr).1
          rw [List.nil_append] at hr1 ho1
          obtain ⟨A14, c14, w14, hr2, ho2, hg2⟩ := run_append_two w13 50 _ _ _ _ _ _ U V ho1 (owns_below ho10 hb13) (by omega) (by omega) hb13.size
          have hb14 : Below w12.heap.size w12 w14 := hb13.grown hg2 hb13.size fun r hr => (owns_block ho1 r hr).1
          have HR1 := Lib.hid hr1
          have HR2 := Lib.hid hr2
          have HG14 := Lib.hid (HG12.out.below hb14)
          have HX := Lib.hid (HX.out.below hb14)
          have HY := Lib.hid (HY.out.below hb14)
          have HB14 := Lib.hid (HB12.out.trans (hb14.mono HB12.out.size))
          have HE3 := Lib.hid (eval_live hv w14 bg br HG14.out.live HG14.out.rules _ (U ++ V) (ints_of_owns ho2 HFUV.out) (by simp; omega) (good_app HGA.out HGB.out))
          have HEE : Hid (evW K (U ++ V) = mulP K (evW K U) (evW K V)) := Lib.hid (evW_app hv HC.out U V HGB.out)
          have NX := Lib.hid (evTo_NV (ws := U) hv U.length)
          have NY := Lib.hid (evTo_NV (ws := V) hv V.length)
          generalize (U ++ V).length = LW at *
          clear hx hb ho9 ho10 hal h0 hr1 ho1 hg1 hb13 hr2 ho2 hg2 hb14
          go_wp2_with first
            | ((with_reducible refine wpList_sel 159 ?_); refine wpList_val rfl (r_app (.tmp 157) (.tmp 158) 50 rfl rfl rfl HR1.out) ?_)
            | ((with_reducible refine wpList_sel 161 ?_); refine wpList_val rfl (r_app (.tmp 159) (.tmp 160) 50 rfl rfl rfl HR2.out) ?_)
          refine HE3.out.mono ?_
          rintro e w15 ⟨⟨v, rfl, hx⟩, hb⟩
          obtain ⟨A15, c15, rfl, -⟩ := hx.open_
          have HZ := Lib.hid hx
          have HX := Lib.hid (HX.out.below hb)
          have HY := Lib.hid (HY.out.below hb)
          have HG15 := Lib.hid (HG14.out.below hb)
          have HB15 := Lib.hid (HB14.out.trans (hb.mono HB14.out.size))
          have HM := Lib.hid (mul_eval hv HG15.out HX.out HY.out (takeErr_of_NV NX.out) (takeErr_of_NV NY.out) HEE.out.symm)
          clear hx hb
          go_wp2_with fail
          refine HM.out.mono ?_
          rintro e w16 ⟨A16, c16, rfl, hm, hb⟩
          have HZ := Lib.hid (HZ.out.below hb)
          have HM2 := Lib.hid hm
          have HB16 := Lib.hid (HB15.out.trans (hb.mono HB15.out.size))
          clear hm hb
          go_wp2_with fail
          refine (equal_yes _ _ _ _ _ HZ.out HM2.out rfl).mono ?_
          rintro e w17 ⟨rfl, hb⟩
          have HB17 := Lib.hid (HB16.out.trans (hb.mono HB16.out.size))
          clear hb
          go_wp2_with fail
          go_ret
          exact ⟨rfl, HB17.out⟩
end Go.Proofs
