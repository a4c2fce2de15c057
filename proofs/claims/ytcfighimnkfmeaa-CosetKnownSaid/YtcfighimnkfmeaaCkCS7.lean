/- slices.ContainsFunc at lists of lists; coset.Complete; Holds: the plain law; the closures of coset.Holds; coset.Holds; The reference's system: tree; The reference's system in memory: its box, its rows of numbers. -/
import Derived.Test.YtcfighimnkfmeaaCkCS6
import Derived.Test.YtcfighimnkfmeaaCkCS4
namespace Go.Proofs
open Go.RowKit Go.Shelf Go.Proofs.Ct Go.Maps
/-- function g, bound to lb, answers p at the rows of xs -/
def PredB (g : Nat) (lb : Array Value) (p : List Int → Bool) (w : World) (xs : List (List Int)) : Prop :=
  ∀ (W : World) (u : Value) (k : Nat), Below w.heap.size w W → k < xs.length → IntsAt W u (xs.getD k []) → Calls Try.prog g (#[u] ++ lb) W fun e w' => e = .returned (.bool (p (xs.getD k []))) ∧ Below W.heap.size W w'
theorem any_false_ofR {p : List Int → Bool} {xs : List (List Int)} (h : ∀ j, j < xs.length → p (xs.getD j []) = false) : xs.any p = false := by
  rw [List.any_eq_false]
  intro x hx
  obtain ⟨c, hc, rfl⟩ := List.mem_iff_getElem.1 hx
  have := h c hc
  rw [List.getD_eq_getElem?_getD, List.getElem?_eq_getElem hc] at this
  simpa using this
theorem any_true_ofR {p : List Int → Bool} {xs : List (List Int)} {k : Nat} (hk : k < xs.length) (h : p (xs.getD k []) = true) : xs.any p = true := by
  rw [List.any_eq_true]
  rw [List.getD_eq_getElem?_getD, List.getElem?_eq_getElem hk] at h
  exact ⟨_, List.getElem_mem hk, h⟩
section
variable (g : Nat) (lb : Array Value) (p : List Int → Bool) (w : World) (eg : ∀ args w, (callFunc g args).run Try.prog w = .ok (.enter g args) w) (v : Value) (xs : List (List Int)) (h : Tab w v xs) (hp : PredB g lb p w xs)
include eg hp h
set_option maxRecDepth 100000 in
set_option maxHeartbeats 400000 in
theorem idx139_any : Calls Try.prog 139 #[v, .func (.func g) #[] lb] w fun e w' => IdxSaid (xs.any p) e ∧ Below w.heap.size w w' := by
  obtain ⟨A, c, rfl, hc1, hc2, hc⟩ := h.open_
  have HC := Lib.hid hc
  have HP := Lib.hid hp
  clear hc hp h
  go_enter Try.func139, Try.ntmps139
  go_wp2_with fail
  go_loopw [5, 8] (fun _ i wr => ∃ k : Nat, k ≤ xs.length ∧ i = .int .i64 k ∧ Hid (∀ j, j < k → p (xs.getD j []) = false) ∧ Hid (Below w.heap.size w wr)) (fun _ i _ => xs.length - (intOf i).toNat)
  case atStart => exact ⟨0, Nat.zero_le _, rfl, Lib.hid fun j hj => absurd hj (by omega), Lib.hid (Below.refl _ _)⟩
  case round =>
    obtain ⟨k, hk, rfl, HZ, HB⟩ := hrel
    have hk0 : (0 : Int) ≤ (k : Int) := Int.natCast_nonneg _
    by_cases hlt : k < xs.length
    · have hlt' : (k : Int) < (xs.length : Int) := by omega
      obtain ⟨b, o, rfl, hcc⟩ := HC.out (by omega)
      obtain ⟨u, hu, hI⟩ := hcc k hlt
      have hu' := (HB.out.cell (p := ⟨b, o + k, none⟩) (World.block_lt_of_cell? w _ hu)).trans hu
      have hI2 := hI.below HB.out
      have hcall := HP.out wr u k HB.out hlt hI2
      obtain ⟨Ar, cr, rfl, -, -, -⟩ := hI2.open_
      clear hcc hu hI hI2
      have HA := Lib.hid (any_true_ofR (p := p) hlt)
      have HN : Hid (p (xs.getD k []) = false → ∀ j, j < k + 1 → p (xs.getD j []) = false) := Lib.hid fun h => all_succ HZ.out h
      generalize hpx : p (xs.getD k []) = pb at *
      have HPX := Lib.hid hpx
      clear hpx
      generalize xs.getD k [] = x at *
      have HCALL := Lib.hid hcall
      clear hcall
      cases pb with
      | true =>
        have HA2 := Lib.hid (HA.out rfl)
        go_wp2_with (go_at_fn g; (refine HCALL.out.mono ?_); rintro e w' ⟨rfl, hb⟩; have HB2 := Lib.hid (HB.out.trans (hb.mono HB.out.size)); clear hb)
        go_ret
        exact ⟨⟨k, rfl, by rw [HA2.out]; simp⟩, HB2.out⟩
      | false =>
        have HN2 := Lib.hid (HN.out rfl)
        go_wp2_with (go_at_fn g; (refine HCALL.out.mono ?_); rintro e w' ⟨rfl, hb⟩; have HB2 := Lib.hid (HB.out.trans (hb.mono HB.out.size)); clear hb)
        go_roundw
        case rel => exact ⟨k + 1, by omega, by go_num, HN2, HB2⟩
        case measure => simp [intOf]; omega
    · obtain rfl : k = xs.length := by omega
      go_wp2_with fail
      go_ret
      exact ⟨⟨-1, rfl, by rw [any_false_ofR HZ.out]; rfl⟩, HB.out⟩
theorem has105_any : Calls Try.prog 105 #[v, .func (.func g) #[] lb] w fun e w' => e = .returned (.bool (xs.any p)) ∧ Below w.heap.size w w' := by
  have hcon := Lib.hid (idx139_any g lb p w eg v xs h hp)
  clear hp h
  go_enter Try.func105, Try.ntmps105
  go_wp2_with (go_at_call 139; (refine hcon.out.mono ?_); rintro e w' ⟨⟨r, rfl, hr⟩, hb⟩; have HR := Lib.hid hr; have HB := Lib.hid hb; clear hr hb)
  go_ret
  exact ⟨ret_bool HR.out, HB.out⟩
end
section
variable (g : Nat) (lb : Array Value) (p : List Int → Bool) (w : World) (eg : ∀ args w, (callFunc g args).run Try.prog w = .ok (.enter g args) w) (v : Value) (xs : List (List Int)) (h : Tab w v xs) (hp : PredB g lb p w xs)
include eg hp h
set_option maxRecDepth 100000 in
set_option maxHeartbeats 400000 in
theorem idx123_any : Calls Try.prog 123 #[v, .func (.func g) #[] lb] w fun e w' => IdxSaid (xs.any p) e ∧ Below w.heap.size w w' := by
  obtain ⟨A, c, rfl, hc1, hc2, hc⟩ := h.open_
  have HC := Lib.hid hc
  have HP := Lib.hid hp
  clear hc hp h
  go_enter Try.func123, Try.ntmps123
  go_wp2_with fail
  go_loopw [5, 8] (fun _ i wr => ∃ k : Nat, k ≤ xs.length ∧ i = .int .i64 k ∧ Hid (∀ j, j < k → p (xs.getD j []) = false) ∧ Hid (Below w.heap.size w wr)) (fun _ i _ => xs.length - (intOf i).toNat)
  case atStart => exact ⟨0, Nat.zero_le _, rfl, Lib.hid fun j hj => absurd hj (by omega), Lib.hid (Below.refl _ _)⟩
  case round =>
    obtain ⟨k, hk, rfl, HZ, HB⟩ := hrel
    have hk0 : (0 : Int) ≤ (k : Int) := Int.natCast_nonneg _
    by_cases hlt : k < xs.length
    · have hlt' : (k : Int) < (xs.length : Int) := by omega
      obtain ⟨b, o, rfl, hcc⟩ := HC.out (by omega)
      obtain ⟨u, hu, hI⟩ := hcc k hlt
      have hu' := (HB.out.cell (p := ⟨b, o + k, none⟩) (World.block_lt_of_cell? w _ hu)).trans hu
      have hI2 := hI.below HB.out
      have hcall := HP.out wr u k HB.out hlt hI2
      obtain ⟨Ar, cr, rfl, -, -, -⟩ := hI2.open_
      clear hcc hu hI hI2
      have HA := Lib.hid (any_true_ofR (p := p) hlt)
      have HN : Hid (p (xs.getD k []) = false → ∀ j, j < k + 1 → p (xs.getD j []) = false) := Lib.hid fun h => all_succ HZ.out h
      generalize hpx : p (xs.getD k []) = pb at *
      have HPX := Lib.hid hpx
      clear hpx
      generalize xs.getD k [] = x at *
      have HCALL := Lib.hid hcall
      clear hcall
      cases pb with
      | true =>
        have HA2 := Lib.hid (HA.out rfl)
        go_wp2_with (go_at_fn g; (refine HCALL.out.mono ?_); rintro e w' ⟨rfl, hb⟩; have HB2 := Lib.hid (HB.out.trans (hb.mono HB.out.size)); clear hb)
        go_ret
        exact ⟨⟨k, rfl, by rw [HA2.out]; simp⟩, HB2.out⟩
      | false =>
        have HN2 := Lib.hid (HN.out rfl)
        go_wp2_with (go_at_fn g; (refine HCALL.out.mono ?_); rintro e w' ⟨rfl, hb⟩; have HB2 := Lib.hid (HB.out.trans (hb.mono HB.out.size)); clear hb)
        go_roundw
        case rel => exact ⟨k + 1, by omega, by go_num, HN2, HB2⟩
        case measure => simp [intOf]; omega
    · obtain rfl : k = xs.length := by omega
      go_wp2_with fail
      go_ret
      exact ⟨⟨-1, rfl, by rw [any_false_ofR HZ.out]; rfl⟩, HB.out⟩
theorem has81_any : Calls Try.prog 81 #[v, .func (.func g) #[] lb] w fun e w' => e = .returned (.bool (xs.any p)) ∧ Below w.heap.size w w' := by
  have hcon := Lib.hid (idx123_any g lb p w eg v xs h hp)
  clear hp h
  go_enter Try.func81, Try.ntmps81
  go_wp2_with (go_at_call 123; (refine hcon.out.mono ?_); rintro e w' ⟨⟨r, rfl, hr⟩, hb⟩; have HR := Lib.hid hr; have HB := Lib.hid hb; clear hr hb)
  go_ret
  exact ⟨ret_bool HR.out, HB.out⟩
end
set_option maxRecDepth 100000 in
set_option maxHeartbeats 400000 in
theorem idx140_any (w : World) (v : Value) (xs : List Int) (z : Int) (h : IntsAt w v xs) : Calls Try.prog 140 #[v, .int .i64 z] w fun e w' => IdxSaid (xs.contains z) e ∧ w' = w := by
  obtain ⟨A, c, rfl, hc1, hc2, hc⟩ := h.open_
  have HC := Lib.hid hc
  clear hc h
  go_enter Try.func140, Try.ntmps140
  go_wp2_with fail
  go_loopw [5, 8] (fun _ i wr => ∃ k : Nat, k ≤ xs.length ∧ i = .int .i64 k ∧ Hid (∀ j, j < k → xs.getD j 0 ≠ z) ∧ wr = w) (fun _ i _ => xs.length - (intOf i).toNat)
  case atStart => exact ⟨0, Nat.zero_le _, rfl, Lib.hid fun j hj => absurd hj (by omega), rfl⟩
  case round =>
    obtain ⟨k, hk, rfl, HZ, rfl⟩ := hrel
    have hk0 : (0 : Int) ≤ (k : Int) := Int.natCast_nonneg _
    by_cases hlt : k < xs.length
    · have hlt' : (k : Int) < (xs.length : Int) := by omega
      obtain ⟨b, o, rfl, hcc⟩ := HC.out (by omega)
      have hck := hcc k hlt
      have HT : Hid (xs.getD k 0 = z → xs.contains z = true) := Lib.hid fun h => by
        rw [List.contains_iff_mem, ← h, List.getD_eq_getElem?_getD, List.getElem?_eq_getElem hlt]
        exact List.getElem_mem hlt
      have HN : Hid (xs.getD k 0 ≠ z → ∀ j, j < k + 1 → xs.getD j 0 ≠ z) := Lib.hid fun h => all_succ HZ.out h
      clear hcc
      generalize xs.getD k 0 = x at *
      by_cases hx : z = x
      · have d1 : (z == x) = true := by simpa using hx
        have HT2 := Lib.hid (HT.out hx.symm)
        clear hx
        go_wp2_with fail
        go_ret
        exact ⟨⟨k, rfl, by rw [HT2.out]; simp⟩, (by first | trivial | rfl)⟩
      · have d1 : (z == x) = false := by simpa using hx
        have HN2 := Lib.hid (HN.out fun h => hx h.symm)
        clear hx
        go_wp2_with fail
        go_roundw
        case rel => exact ⟨k + 1, by omega, by go_num, HN2, (by first | trivial | rfl)⟩
        case measure => simp [intOf]; omega
    · obtain rfl : k = xs.length := by omega
      have HF : Hid (xs.contains z = false) := Lib.hid (by
        rw [Bool.eq_false_iff]
        intro h
        rw [List.contains_iff_mem] at h
        obtain ⟨i, hi, he⟩ := List.mem_iff_getElem.1 h
        exact HZ.out i hi (by rw [List.getD_eq_getElem?_getD, List.getElem?_eq_getElem hi]; exact he))
      go_wp2_with fail
      go_ret
      exact ⟨⟨-1, rfl, by rw [HF.out]; rfl⟩, (by first | trivial | rfl)⟩
theorem has107_any (w : World) (v : Value) (xs : List Int) (z : Int) (h : IntsAt w v xs) : Calls Try.prog 107 #[v, .int .i64 z] w fun e w' => e = .returned (.bool (xs.contains z)) ∧ w' = w := by
  have hcon := Lib.hid (idx140_any w v xs z h)
  clear h
  go_enter Try.func107, Try.ntmps107
  go_wp2_with (go_at_call 140; (refine hcon.out.mono ?_); rintro e w' ⟨⟨r, rfl, hr⟩, rfl⟩; have HR := Lib.hid hr; clear hr)
  go_ret
  exact ⟨ret_bool HR.out, (by first | trivial | rfl)⟩
theorem neg1_106 (w : World) (v : Value) (xs : List Int) (h : IntsAt w v xs) : Calls Try.prog 106 #[v] w fun e w' => e = .returned (.bool (xs.contains (-1))) ∧ Below w.heap.size w w' := by
  have hcon := Lib.hid (has107_any w v xs (-1) h)
  clear h
  generalize xs.contains (-1) = b at *
  go_enter Try.func106, Try.ntmps106
  go_wp2_with (go_at_call 107; (refine hcon.out.mono ?_); rintro e w' ⟨rfl, rfl⟩)
  go_ret
  exact ⟨rfl, Below.refl _ _⟩
theorem eg106 : ∀ args w, (callFunc 106 args).run Try.prog w = .ok (.enter 106 args) w := enters_of Try.func106 (by kernel_rfl) rfl
theorem complete45_any (w : World) (v : Value) (t : Tb) (ht : Tab w v t) : Calls Try.prog 45 #[v] w fun e w' => e = .returned (.bool (complete t)) ∧ Below w.heap.size w w' := by
  have HC := Lib.hid (has105_any 106 #[] (fun row => row.contains (-1)) w eg106 v t ht fun W u k _ _ hI => neg1_106 W u _ hI)
  obtain ⟨A, c, rfl⟩ := Tab.form ht
  have HE : Hid ((!(t.any fun row => row.contains (-1))) = complete t) := Lib.hid rfl
  clear ht
  generalize (t.any fun row => row.contains (-1)) = b at *
  go_enter Try.func45, Try.ntmps45
  go_wp2_with (go_at_call 105; (refine HC.out.mono ?_); rintro e w' ⟨rfl, hb⟩; have HB := Lib.hid hb; clear hb)
  go_ret
  exact ⟨ret_bool HE.out, HB.out⟩
end Go.Proofs
namespace Go.Proofs
open Go.RowKit Go.Shelf Go.Proofs.Ct Go.Maps
def holdsE (g : Int) (rels sub : List W) (t : Tb) : Bool × Int :=
  if presE g rels ≠ 0 then (false, presE g rels) else
  if (sub.any fun w => w.any (letBad g.toNat)) = true then (false, 2) else
  if (check g t).1 ≠ 0 then (false, (check g t).1) else (holdsB rels sub t, 0)
def HoldsPost (g : Int) (rels sub : List W) (t : Tb) (w : World) (e : Ending) (w' : World) : Prop :=
  e = .returned (.tuple #[.bool (holdsE g rels sub t).1, .int .i64 (holdsE g rels sub t).2]) ∧ Below w.heap.size w w'
theorem all_getD {p : W → Bool} {l : List W} : l.all p = true ↔ ∀ j, j < l.length → p (l.getD j []) = true := by
  rw [List.all_eq_true]
  constructor
  · intro h j hj
    rw [List.getD_eq_getElem?_getD, List.getElem?_eq_getElem hj]
    exact h _ (List.getElem_mem hj)
  · intro h x hx
    obtain ⟨c, hc, rfl⟩ := List.mem_iff_getElem.1 hx
    have := h c hc
    rwa [List.getD_eq_getElem?_getD, List.getElem?_eq_getElem hc] at this
theorem staysB_true {t : Tb} {r : Int} {l : List W} (h : ∀ j, j < l.length → leads t r (l.getD j []) = r) : staysB t r l = true := all_getD.2 fun j hj => by simpa using h j hj
theorem staysB_false {t : Tb} {r : Int} {l : List W} {j : Nat} (hj : j < l.length) (h : leads t r (l.getD j []) ≠ r) : staysB t r l = false := by
  rw [Bool.eq_false_iff]
  intro h'
  have := all_getD.1 h' j hj
  simp at this
  exact h (by simpa using this)
theorem holds_true {rels sub : List W} {t : Tb} (h1 : complete t = true) (h2 : ∀ j, j < sub.length → leads t 0 (sub.getD j []) = 0) (h3 : ∀ r, r < t.length → staysB t (r : Int) rels = true) : holdsB rels sub t = true := by
  unfold holdsB
  rw [h1, staysB_true h2]
  simp only [Bool.true_and, List.all_eq_true, List.mem_range]
  exact h3
theorem holds_sub {rels sub : List W} {t : Tb} {j : Nat} (hj : j < sub.length) (h : leads t 0 (sub.getD j []) ≠ 0) : holdsB rels sub t = false := by
  unfold holdsB
  rw [staysB_false hj h]
  simp
theorem holds_rel {rels sub : List W} {t : Tb} {r j : Nat} (hr : r < t.length) (hj : j < rels.length) (h : leads t r (rels.getD j []) ≠ r) : holdsB rels sub t = false := by
  unfold holdsB
  have : ((List.range t.length).all fun r => staysB t (r : Int) rels) = false := by
    rw [Bool.eq_false_iff]
    intro h'
    rw [List.all_eq_true] at h'
    have := h' r (by simpa using hr)
    rw [staysB_false hj h] at this
    cases this
  rw [this]
  simp
theorem holds_part {rels sub : List W} {t : Tb} (h : complete t = false) : holdsB rels sub t = false := by unfold holdsB; rw [h]; rfl
/-- the letters of a valid presentation -/
theorem presE_good {g : Int} {rels : List W} (h : presE g rels = 0) : ∃ gn : Nat, g = gn ∧ 1 ≤ gn ∧ gn ≤ 16 ∧ rels.length ≤ 100 ∧ ∀ j, j < rels.length → LetsOk gn (rels.getD j []) ∧ (rels.getD j []).length ≤ 4000 := by
  unfold presE at h
  by_cases h1 : g < 1 ∨ 16 < g
  · rw [if_pos h1] at h; omega
  · rw [if_neg h1] at h
    by_cases h2 : 100 < rels.length
    · rw [if_pos h2] at h; omega
    · rw [if_neg h2] at h
      have hz : ∀ j, j < rels.length → presBad g.toNat rels j = 0 := by
        cases hf : first (fun k => decide (presBad g.toNat rels k ≠ 0)) rels.length with
        | none => intro j hj; simpa using first_none' hf j hj
        | some k =>
          rw [hf] at h
          have h3 := (first_some' hf).2.1
          simp at h3
          exact absurd h h3
      refine ⟨g.toNat, by omega, by omega, by omega, by omega, fun j hj => ?_⟩
      have hb := hz j hj
      unfold presBad at hb
      by_cases h3 : 4000 < sumTo rels (j + 1)
      · rw [if_pos h3] at hb; omega
      · rw [if_neg h3] at hb
        refine ⟨letsOk_of ?_, ?_⟩
        · cases hx : (rels.getD j []).any (letBad g.toNat) with
          | false => rfl
          | true => rw [hx] at hb; simp at hb
        · rw [sumTo_succ] at h3; omega
theorem subs_good {g : Nat} {sub : List W} (h : (sub.any fun w => w.any (letBad g)) = false) : ∀ j, j < sub.length → LetsOk g (sub.getD j []) := fun j hj => letsOk_of (by
  rw [List.any_eq_false] at h
  have := h (sub.getD j []) (by rw [List.getD_eq_getElem?_getD, List.getElem?_eq_getElem hj]; exact List.getElem_mem hj)
  exact Bool.eq_false_iff.2 this)
theorem load40 {w : World} {b : Nat} {v0 v1 : Value} (hc : w.heap[b]? = some (.cells #[v0, v1] 40 (0, 0))) : (Instr.loadAt 40 (.pointer (some ⟨b, 0, none⟩))).run Try.prog w = .ok (.agg #[v0, v1]) w := by
  have hr : w.rangeAt b 0 [v0, v1] := fun j v hj => by rw [cell_of_row _ _ _ _ _ _ hc, Nat.zero_add]; simpa using hj
  exact run_loadAt_mid (P := Try.prog) w b 0 40 [v0, v1] _ hr Try.underlying40 rfl (by kernel_rfl)
theorem neg91_any (w : World) (B g : Nat) (u : Value) (ws : List Int) (hg : g ≤ 16) (hc : w.cell? ⟨B, 0, none⟩ = some (.int .i64 (g : Int))) (hu : IntsAt w u ws) :
    Calls Try.prog 91 #[u, .pointer (some ⟨B, 0, none⟩)] w fun e w' => e = .returned (.bool (ws.any (letBad g))) ∧ Below w.heap.size w w' := by
  have HC := Lib.hid (fine83_any w g u ws hg hu)
  obtain ⟨A, c, rfl, -, -, -⟩ := hu.open_
  clear hu
  generalize ws.any (letBad g) = b at *
  go_enter Try.func91, Try.ntmps91
  go_wp2_with (go_at_call 83; (refine HC.out.mono ?_); rintro e w' ⟨rfl, hb⟩; have HB := Lib.hid hb; clear hb)
  go_ret
  exact ⟨ret_bool (by simp), HB.out⟩
theorem eg91 : ∀ args w, (callFunc 91 args).run Try.prog w = .ok (.enter 91 args) w := enters_of Try.func91 (by kernel_rfl) rfl
theorem stay92 (w : World) (r : Int) (p : Value) : Calls Try.prog 92 #[.int .i64 r, p] w fun e w' => e = .returned (.func (.func 93) #[] #[p, .pointer (some ⟨w.heap.size, 0, none⟩)]) ∧ w' = w.alloc (.cells #[.int .i64 r] 3) := by
  go_enter Try.func92, Try.ntmps92
  go_wp2_with fail
  go_ret
  exact ⟨rfl, rfl⟩
set_option maxRecDepth 100000 in
theorem stay93 (w : World) (B R : Nat) (v u : Value) (g : Nat) (t : Tb) (r : Nat) (ws : List Int) (hB : w.cell? ⟨B, 0, none⟩ = some v) (hR : w.cell? ⟨R, 0, none⟩ = some (.int .i64 (r : Int))) (ht : Tab w v t) (hu : IntsAt w u ws) (hg : TGood g t) (hl : LetsOk g ws) (hr : r < t.length) :
    Calls Try.prog 93 #[u, .pointer (some ⟨B, 0, none⟩), .pointer (some ⟨R, 0, none⟩)] w fun e w' => e = .returned (.bool (decide (leads t r ws = (r : Int)))) ∧ Below w.heap.size w w' := by
  have HC := Lib.hid (trace94_any w v u g t r ws ht hu hg hl hr)
  have hbd := leadTo_bd hg hl (r := (r : Int)) (by omega) ws.length (Nat.le_refl _)
  have hbd' : -1 ≤ leads t r ws ∧ leads t r ws < t.length := hbd
  obtain ⟨A, c, rfl⟩ := Tab.form ht
  obtain ⟨Au, cu, rfl, -, -, -⟩ := hu.open_
  have hr0 : (0 : Int) ≤ (r : Int) := Int.natCast_nonneg _
  clear ht hu hg hl hbd
  generalize leads t r ws = l at *
  obtain ⟨l1, l2⟩ := hbd'
  unfold TracePost at HC
  by_cases h : l < 0
  · have HZ : Hid (decide (l = (r : Int)) = false) := Lib.hid (decide_eq_false (by omega))
    rw [if_pos h, decide_eq_false (by omega : ¬ 0 ≤ l)] at HC
    clear h
    generalize decide (l = (r : Int)) = b at *
    go_enter Try.func93, Try.ntmps93
    go_wp2_with (go_at_call 94; (refine HC.out.mono ?_); rintro e w' ⟨rfl, q, rfl⟩)
    go_ret
    exact ⟨ret_bool HZ.out.symm, below_drewN (Below.refl _ _) _⟩
  · rw [if_neg h, decide_eq_true (by omega : 0 ≤ l)] at HC
    by_cases h2 : l = (r : Int)
    · have HZ : Hid (decide (l = (r : Int)) = true) := Lib.hid (decide_eq_true h2)
      have d1 : (l == (r : Int)) = true := by simpa using h2
      clear h h2
      generalize decide (l = (r : Int)) = b at *
      go_enter Try.func93, Try.ntmps93
      go_wp2_with (go_at_call 94; (refine HC.out.mono ?_); rintro e w' ⟨rfl, q, rfl⟩)
      go_ret
      exact ⟨ret_bool HZ.out.symm, below_drewN (Below.refl _ _) _⟩
    · have HZ : Hid (decide (l = (r : Int)) = false) := Lib.hid (decide_eq_false h2)
      have d1 : (l == (r : Int)) = false := by simpa using h2
      clear h h2
      generalize decide (l = (r : Int)) = b at *
      go_enter Try.func93, Try.ntmps93
      go_wp2_with (go_at_call 94; (refine HC.out.mono ?_); rintro e w' ⟨rfl, q, rfl⟩)
      go_ret
      exact ⟨ret_bool HZ.out.symm, below_drewN (Below.refl _ _) _⟩
end Go.Proofs
namespace Go.Proofs
open Go.RowKit Go.Shelf Go.Proofs.Ct Go.Maps
theorem LAt.cells {α : Type} {R : World → Value → α → Prop} {d : α} {w : World} {A : Option Addr} {n c : Nat} {xs : List α} (h : LAt R d w (.slice A n c) xs) : 0 < xs.length → ∃ b off, A = some ⟨b, off, none⟩ ∧ ∀ k, k < xs.length → ∃ u, w.cell? ⟨b, off + k, none⟩ = some u ∧ R w u (xs.getD k d) := by
  obtain ⟨A', c', e, -, -, h3⟩ := h.open_
  cases e
  exact h3
theorem LAt.len_le {α : Type} {R : World → Value → α → Prop} {d : α} {w : World} {v : Value} {xs : List α} (h : LAt R d w v xs) : (xs.length : Int) ≤ 9223372036854775807 := by
  obtain ⟨A', c', e, h1, h2, -⟩ := h.open_
  omega
theorem ret_bi {k : IntKind} {a c : Bool} {b d : Int} (h : a = c) (h' : b = d) : Ending.returned (.tuple #[.bool a, .int k b]) = Ending.returned (.tuple #[.bool c, .int k d]) := by rw [h, h']
set_option maxRecDepth 100000 in
set_option maxHeartbeats 2000000 in
theorem holds35_pres (w : World) (vr vs vt : Value) (g : Int) (rels sub : List W) (t : Tb) (hR : Tab w vr rels) (hS : Tab w vs sub) (ht : Tab w vt t) (he : presE g rels ≠ 0) : Calls Try.prog 35 #[.agg #[.int .i64 g, vr], vs, vt] w (HoldsPost g rels sub t w) := by
  obtain ⟨Ar, cr, rfl⟩ := Tab.form hR
  obtain ⟨As, cs, rfl⟩ := Tab.form hS
  obtain ⟨At, ct, rfl⟩ := Tab.form ht
  have H78 : Hid (∀ W, Tab W (.slice Ar rels.length cr) rels → Calls Try.prog 78 #[.agg #[.int .i64 g, .slice Ar rels.length cr]] W fun e w' => (∃ y, e = .returned (.tuple #[.int .i64 (presE g rels), .int .i64 y])) ∧ Below W.heap.size W w') := Lib.hid fun W h => pcheck78_any W _ _ rels h
  have HE : Hid (holdsE g rels sub t = (false, presE g rels)) := Lib.hid (by unfold holdsE; rw [if_pos he])
  have d1 : (presE g rels != 0) = true := by simpa using he
  generalize presE g rels = x at *
  clear he
  have HPB : Hid (∀ w0 : World, w0 = (w.alloc (.cells #[.int .i64 g, .slice Ar rels.length cr] 40)).alloc (.cells #[.slice At t.length ct] 23) → Below w.heap.size w w0 ∧ w0.heap.size = w.heap.size + 2 ∧ w0.heap[w.heap.size]? = some (.cells #[.int .i64 g, .slice Ar rels.length cr] 40 (0, 0)) ∧ w0.heap[w.heap.size + 1]? = some (.cells #[.slice At t.length ct] 23 (0, 0))) := Lib.hid fun w0 h => by
    subst h
    refine ⟨((Below.refl _ _).alloc (Nat.le_refl _) _).alloc (by simp) _, by simp, ?_, ?_⟩
    · exact (Below.heap_alloc (w.alloc _) _ w.heap.size (by simp)).trans (heap_alloc_new w _)
    · have := heap_alloc_new (w.alloc (.cells #[.int .i64 g, .slice Ar rels.length cr] 40)) (.cells #[.slice At t.length ct] 23); rwa [World.size_alloc] at this
  have HRR := Lib.hid hR
  have HSS := Lib.hid hS
  have HTT := Lib.hid ht
  clear hR hS ht
  go_enter Try.func35, Try.ntmps35
  go_wp2_with fail
  generalize hw0 : (w.alloc (.cells #[.int .i64 g, .slice Ar rels.length cr] 40)).alloc (.cells #[.slice At t.length ct] 23) = w0 at *
  obtain ⟨hb0, hsz, hbp, hbt⟩ := HPB.out w0 rfl
  have HB0 := Lib.hid hb0
  have HSZ := Lib.hid hsz
  have HBP := Lib.hid hbp
  have HBX : Hid (∀ W, Below w0.heap.size w0 W → W.cell? ⟨w.heap.size, 0, none⟩ = some (.int .i64 g) ∧ W.cell? ⟨w.heap.size, 1, none⟩ = some (.slice Ar rels.length cr) ∧ W.cell? ⟨w.heap.size + 1, 0, none⟩ = some (.slice At t.length ct)) := Lib.hid fun W h => by
    obtain ⟨a, b⟩ := cell_of2 ((h.block _ (Array.getElem?_eq_some_iff.1 hbp).1).trans hbp)
    exact ⟨a, b, (cell_of1 ((h.block _ (Array.getElem?_eq_some_iff.1 hbt).1).trans hbt)).1⟩
  have HB00 := Lib.hid (Below.refl w0.heap.size w0)
  clear hw0 hb0 hsz hbp hbt HPB
  go_wp2_with (first
    | ((with_reducible refine wpList_sel 19 ?_); refine wpList_val rfl (r_loadAt 40 (.tmp 3) _ _ rfl rfl (load40 HBP.out)) ?_)
    | (go_at_call 78; (refine (H78.out w0 (kept_tab.below HRR.out HB0.out)).mono ?_); rintro e w1 ⟨⟨y, rfl⟩, hb⟩
       have HB1 := Lib.hid hb
       obtain ⟨p1, q1, t1⟩ := HBX.out _ hb
       clear hb))
  go_ret2
  exact ⟨ret_bi (by rw [HE.out]) (by rw [HE.out]), HB0.out.trans (HB1.out.mono HB0.out.size)⟩
set_option maxRecDepth 100000 in
set_option maxHeartbeats 2000000 in
theorem holds35_sub (w : World) (vr vs vt : Value) (g : Nat) (rels sub : List W) (t : Tb) (hR : Tab w vr rels) (hS : Tab w vs sub) (ht : Tab w vt t) (hg16 : g ≤ 16) (he : presE g rels = 0) (hs : (sub.any fun w => w.any (letBad g)) = true) : Calls Try.prog 35 #[.agg #[.int .i64 (g : Int), vr], vs, vt] w (HoldsPost g rels sub t w) := by
  obtain ⟨Ar, cr, rfl⟩ := Tab.form hR
  obtain ⟨As, cs, rfl⟩ := Tab.form hS
  obtain ⟨At, ct, rfl⟩ := Tab.form ht
  have H78 : Hid (∀ W, Tab W (.slice Ar rels.length cr) rels → Calls Try.prog 78 #[.agg #[.int .i64 (g : Int), .slice Ar rels.length cr]] W fun e w' => (∃ y, e = .returned (.tuple #[.int .i64 (presE (g : Int) rels), .int .i64 y])) ∧ Below W.heap.size W w') := Lib.hid fun W h => pcheck78_any W _ _ rels h
  have H81 : Hid (∀ (W : World) (B : Nat), W.cell? ⟨B, 0, none⟩ = some (.int .i64 (g : Int)) → Tab W (.slice As sub.length cs) sub → Calls Try.prog 81 #[.slice As sub.length cs, .func (.func 91) #[] #[.pointer (some ⟨B, 0, none⟩)]] W fun e w' => e = .returned (.bool (sub.any fun w => w.any (letBad g))) ∧ Below W.heap.size W w') := Lib.hid fun W B hc h =>
    has81_any 91 _ (fun w => w.any (letBad g)) W eg91 _ sub h fun W' u k hb hk hI => neg91_any W' B g u _ hg16 ((hb.cell (p := ⟨B, 0, none⟩) (World.block_lt_of_cell? _ _ hc)).trans hc) hI
  rw [he] at H78
  have HE : Hid (holdsE g rels sub t = (false, 2)) := Lib.hid (by unfold holdsE; rw [if_neg (by rw [he]; simp), Int.toNat_natCast, if_pos hs])
  rw [hs] at H81
  clear he hs hg16
  have HPB : Hid (∀ w0 : World, w0 = (w.alloc (.cells #[.int .i64 (g : Int), .slice Ar rels.length cr] 40)).alloc (.cells #[.slice At t.length ct] 23) → Below w.heap.size w w0 ∧ w0.heap.size = w.heap.size + 2 ∧ w0.heap[w.heap.size]? = some (.cells #[.int .i64 (g : Int), .slice Ar rels.length cr] 40 (0, 0)) ∧ w0.heap[w.heap.size + 1]? = some (.cells #[.slice At t.length ct] 23 (0, 0))) := Lib.hid fun w0 h => by
    subst h
    refine ⟨((Below.refl _ _).alloc (Nat.le_refl _) _).alloc (by simp) _, by simp, ?_, ?_⟩
    · exact (Below.heap_alloc (w.alloc _) _ w.heap.size (by simp)).trans (heap_alloc_new w _)
    · have := heap_alloc_new (w.alloc (.cells #[.int .i64 (g : Int), .slice Ar rels.length cr] 40)) (.cells #[.slice At t.length ct] 23); rwa [World.size_alloc] at this
  have HRR := Lib.hid hR
  have HSS := Lib.hid hS
  have HTT := Lib.hid ht
  clear hR hS ht
  go_enter Try.func35, Try.ntmps35
  go_wp2_with fail
  generalize hw0 : (w.alloc (.cells #[.int .i64 (g : Int), .slice Ar rels.length cr] 40)).alloc (.cells #[.slice At t.length ct] 23) = w0 at *
  obtain ⟨hb0, hsz, hbp, hbt⟩ := HPB.out w0 rfl
  have HB0 := Lib.hid hb0
  have HSZ := Lib.hid hsz
  have HBP := Lib.hid hbp
  have HBX : Hid (∀ W, Below w0.heap.size w0 W → W.cell? ⟨w.heap.size, 0, none⟩ = some (.int .i64 (g : Int)) ∧ W.cell? ⟨w.heap.size, 1, none⟩ = some (.slice Ar rels.length cr) ∧ W.cell? ⟨w.heap.size + 1, 0, none⟩ = some (.slice At t.length ct)) := Lib.hid fun W h => by
    obtain ⟨a, b⟩ := cell_of2 ((h.block _ (Array.getElem?_eq_some_iff.1 hbp).1).trans hbp)
    exact ⟨a, b, (cell_of1 ((h.block _ (Array.getElem?_eq_some_iff.1 hbt).1).trans hbt)).1⟩
  have HB00 := Lib.hid (Below.refl w0.heap.size w0)
  clear hw0 hb0 hsz hbp hbt HPB
  go_wp2_with (first
    | ((with_reducible refine wpList_sel 19 ?_); refine wpList_val rfl (r_loadAt 40 (.tmp 3) _ _ rfl rfl (load40 HBP.out)) ?_)
    | (go_at_call 78; (refine (H78.out w0 (kept_tab.below HRR.out HB0.out)).mono ?_); rintro e w1 ⟨⟨y, rfl⟩, hb⟩
       have HB1 := Lib.hid hb
       obtain ⟨p1, q1, t1⟩ := HBX.out _ hb
       clear hb)
    | (go_at_call 81; (refine (H81.out _ _ (HBX.out _ HB1.out).1 (kept_tab.below HSS.out (HB0.out.trans (HB1.out.mono HB0.out.size)))).mono ?_); rintro e w2 ⟨rfl, hb⟩
       have HB2 := Lib.hid (HB1.out.trans (hb.mono HB1.out.size))
       obtain ⟨p2, q2, t2⟩ := HBX.out _ HB2.out
       clear hb p1 q1 t1))
  go_ret2
  exact ⟨ret_bi (by rw [HE.out]) (by rw [HE.out]), HB0.out.trans (HB2.out.mono HB0.out.size)⟩
set_option maxRecDepth 100000 in
set_option maxHeartbeats 2000000 in
theorem holds35_chk (w : World) (vr vs vt : Value) (g : Nat) (rels sub : List W) (t : Tb) (hR : Tab w vr rels) (hS : Tab w vs sub) (ht : Tab w vt t) (hg16 : g ≤ 16) (he : presE g rels = 0) (hs : (sub.any fun w => w.any (letBad g)) = false) (hc : (check g t).1 ≠ 0) : Calls Try.prog 35 #[.agg #[.int .i64 (g : Int), vr], vs, vt] w (HoldsPost g rels sub t w) := by
  obtain ⟨Ar, cr, rfl⟩ := Tab.form hR
  obtain ⟨As, cs, rfl⟩ := Tab.form hS
  obtain ⟨At, ct, rfl⟩ := Tab.form ht
  have H78 : Hid (∀ W, Tab W (.slice Ar rels.length cr) rels → Calls Try.prog 78 #[.agg #[.int .i64 (g : Int), .slice Ar rels.length cr]] W fun e w' => (∃ y, e = .returned (.tuple #[.int .i64 (presE (g : Int) rels), .int .i64 y])) ∧ Below W.heap.size W w') := Lib.hid fun W h => pcheck78_any W _ _ rels h
  have H81 : Hid (∀ (W : World) (B : Nat), W.cell? ⟨B, 0, none⟩ = some (.int .i64 (g : Int)) → Tab W (.slice As sub.length cs) sub → Calls Try.prog 81 #[.slice As sub.length cs, .func (.func 91) #[] #[.pointer (some ⟨B, 0, none⟩)]] W fun e w' => e = .returned (.bool (sub.any fun w => w.any (letBad g))) ∧ Below W.heap.size W w') := Lib.hid fun W B hc h =>
    has81_any 91 _ (fun w => w.any (letBad g)) W eg91 _ sub h fun W' u k hb hk hI => neg91_any W' B g u _ hg16 ((hb.cell (p := ⟨B, 0, none⟩) (World.block_lt_of_cell? _ _ hc)).trans hc) hI
  have H43 : Hid (∀ W, Tab W (.slice At t.length ct) t → Calls Try.prog 43 #[.int .i64 (g : Int), .slice At t.length ct] W fun e w' => (∃ y, e = .returned (.tuple #[.int .i64 (check g t).1, .int .i64 y])) ∧ Below W.heap.size W w') := Lib.hid fun W h => (check43_any W _ _ t h).mono fun e w' ⟨a, b⟩ => ⟨⟨_, a⟩, b⟩
  rw [he] at H78
  have HE : Hid (holdsE g rels sub t = (false, (check g t).1)) := Lib.hid (by unfold holdsE; rw [if_neg (by rw [he]; simp), Int.toNat_natCast, if_neg (by rw [hs]; simp), if_pos hc])
  rw [hs] at H81
  have d1 : ((check g t).1 != 0) = true := by simpa using hc
  generalize (check g t).1 = x at *
  clear he hs hg16 hc
  have HPB : Hid (∀ w0 : World, w0 = (w.alloc (.cells #[.int .i64 (g : Int), .slice Ar rels.length cr] 40)).alloc (.cells #[.slice At t.length ct] 23) → Below w.heap.size w w0 ∧ w0.heap.size = w.heap.size + 2 ∧ w0.heap[w.heap.size]? = some (.cells #[.int .i64 (g : Int), .slice Ar rels.length cr] 40 (0, 0)) ∧ w0.heap[w.heap.size + 1]? = some (.cells #[.slice At t.length ct] 23 (0, 0))) := Lib.hid fun w0 h => by
    subst h
    refine ⟨((Below.refl _ _).alloc (Nat.le_refl _) _).alloc (by simp) _, by simp, ?_, ?_⟩
    · exact (Below.heap_alloc (w.alloc _) _ w.heap.size (by simp)).trans (heap_alloc_new w _)
    · have := heap_alloc_new (w.alloc (.cells #[.int .i64 (g : Int), .slice Ar rels.length cr] 40)) (.cells #[.slice At t.length ct] 23); rwa [World.size_alloc] at this
  have HRR := Lib.hid hR
  have HSS := Lib.hid hS
  have HTT := Lib.hid ht
  clear hR hS ht
  go_enter Try.func35, Try.ntmps35
  go_wp2_with fail
  generalize hw0 : (w.alloc (.cells #[.int .i64 (g : Int), .slice Ar rels.length cr] 40)).alloc (.cells #[.slice At t.length ct] 23) = w0 at *
  obtain ⟨hb0, hsz, hbp, hbt⟩ := HPB.out w0 rfl
  have HB0 := Lib.hid hb0
  have HSZ := Lib.hid hsz
  have HBP := Lib.hid hbp
  have HBX : Hid (∀ W, Below w0.heap.size w0 W → W.cell? ⟨w.heap.size, 0, none⟩ = some (.int .i64 (g : Int)) ∧ W.cell? ⟨w.heap.size, 1, none⟩ = some (.slice Ar rels.length cr) ∧ W.cell? ⟨w.heap.size + 1, 0, none⟩ = some (.slice At t.length ct)) := Lib.hid fun W h => by
    obtain ⟨a, b⟩ := cell_of2 ((h.block _ (Array.getElem?_eq_some_iff.1 hbp).1).trans hbp)
    exact ⟨a, b, (cell_of1 ((h.block _ (Array.getElem?_eq_some_iff.1 hbt).1).trans hbt)).1⟩
  have HB00 := Lib.hid (Below.refl w0.heap.size w0)
  clear hw0 hb0 hsz hbp hbt HPB
  go_wp2_with (first
    | ((with_reducible refine wpList_sel 19 ?_); refine wpList_val rfl (r_loadAt 40 (.tmp 3) _ _ rfl rfl (load40 HBP.out)) ?_)
    | (go_at_call 78; (refine (H78.out w0 (kept_tab.below HRR.out HB0.out)).mono ?_); rintro e w1 ⟨⟨y, rfl⟩, hb⟩
       have HB1 := Lib.hid hb
       obtain ⟨p1, q1, t1⟩ := HBX.out _ hb
       clear hb)
    | (go_at_call 81; (refine (H81.out _ _ (HBX.out _ HB1.out).1 (kept_tab.below HSS.out (HB0.out.trans (HB1.out.mono HB0.out.size)))).mono ?_); rintro e w2 ⟨rfl, hb⟩
       have HB2 := Lib.hid (HB1.out.trans (hb.mono HB1.out.size))
       obtain ⟨p2, q2, t2⟩ := HBX.out _ HB2.out
       clear hb p1 q1 t1)
    | (go_at_call 43; (refine (H43.out _ (kept_tab.below HTT.out (HB0.out.trans (HB2.out.mono HB0.out.size)))).mono ?_); rintro e w3 ⟨⟨y3, rfl⟩, hb⟩
       have HB3 := Lib.hid (HB2.out.trans (hb.mono HB2.out.size))
       obtain ⟨p3, q3, t3⟩ := HBX.out _ HB3.out
       clear hb p2 q2 t2))
  go_ret2
  exact ⟨ret_bi (by rw [HE.out]) (by rw [HE.out]), HB0.out.trans (HB3.out.mono HB0.out.size)⟩
set_option maxRecDepth 100000 in
set_option maxHeartbeats 2000000 in
theorem holds35_part (w : World) (vr vs vt : Value) (g : Nat) (rels sub : List W) (t : Tb) (hR : Tab w vr rels) (hS : Tab w vs sub) (ht : Tab w vt t) (hg16 : g ≤ 16) (he : presE g rels = 0) (hs : (sub.any fun w => w.any (letBad g)) = false) (hc : (check g t).1 = 0) (hp : complete t = false) : Calls Try.prog 35 #[.agg #[.int .i64 (g : Int), vr], vs, vt] w (HoldsPost g rels sub t w) := by
  obtain ⟨Ar, cr, rfl⟩ := Tab.form hR
  obtain ⟨As, cs, rfl⟩ := Tab.form hS
  obtain ⟨At, ct, rfl⟩ := Tab.form ht
  have H78 : Hid (∀ W, Tab W (.slice Ar rels.length cr) rels → Calls Try.prog 78 #[.agg #[.int .i64 (g : Int), .slice Ar rels.length cr]] W fun e w' => (∃ y, e = .returned (.tuple #[.int .i64 (presE (g : Int) rels), .int .i64 y])) ∧ Below W.heap.size W w') := Lib.hid fun W h => pcheck78_any W _ _ rels h
  have H81 : Hid (∀ (W : World) (B : Nat), W.cell? ⟨B, 0, none⟩ = some (.int .i64 (g : Int)) → Tab W (.slice As sub.length cs) sub → Calls Try.prog 81 #[.slice As sub.length cs, .func (.func 91) #[] #[.pointer (some ⟨B, 0, none⟩)]] W fun e w' => e = .returned (.bool (sub.any fun w => w.any (letBad g))) ∧ Below W.heap.size W w') := Lib.hid fun W B hc h =>
    has81_any 91 _ (fun w => w.any (letBad g)) W eg91 _ sub h fun W' u k hb hk hI => neg91_any W' B g u _ hg16 ((hb.cell (p := ⟨B, 0, none⟩) (World.block_lt_of_cell? _ _ hc)).trans hc) hI
  have H43 : Hid (∀ W, Tab W (.slice At t.length ct) t → Calls Try.prog 43 #[.int .i64 (g : Int), .slice At t.length ct] W fun e w' => (∃ y, e = .returned (.tuple #[.int .i64 (check g t).1, .int .i64 y])) ∧ Below W.heap.size W w') := Lib.hid fun W h => (check43_any W _ _ t h).mono fun e w' ⟨a, b⟩ => ⟨⟨_, a⟩, b⟩
  have H45 : Hid (∀ W, Tab W (.slice At t.length ct) t → Calls Try.prog 45 #[.slice At t.length ct] W fun e w' => e = .returned (.bool (complete t)) ∧ Below W.heap.size W w') := Lib.hid fun W h => complete45_any W _ t h
  rw [he] at H78
  have HE : Hid (holdsE g rels sub t = (false, 0)) := Lib.hid (by unfold holdsE; rw [if_neg (by rw [he]; simp), Int.toNat_natCast, if_neg (by rw [hs]; simp), if_neg (by rw [hc]; simp), holds_part hp])
  rw [hs] at H81
  rw [hc] at H43
  rw [hp] at H45
  clear he hs hg16 hc hp
  have HPB : Hid (∀ w0 : World, w0 = (w.alloc (.cells #[.int .i64 (g : Int), .slice Ar rels.length cr] 40)).alloc (.cells #[.slice At t.length ct] 23) → Below w.heap.size w w0 ∧ w0.heap.size = w.heap.size + 2 ∧ w0.heap[w.heap.size]? = some (.cells #[.int .i64 (g : Int), .slice Ar rels.length cr] 40 (0, 0)) ∧ w0.heap[w.heap.size + 1]? = some (.cells #[.slice At t.length ct] 23 (0, 0))) := Lib.hid fun w0 h => by
    subst h
    refine ⟨((Below.refl _ _).alloc (Nat.le_refl _) _).alloc (by simp) _, by simp, ?_, ?_⟩
    · exact (Below.heap_alloc (w.alloc _) _ w.heap.size (by simp)).trans (heap_alloc_new w _)
    · have := heap_alloc_new (w.alloc (.cells #[.int .i64 (g : Int), .slice Ar rels.length cr] 40)) (.cells #[.slice At t.length ct] 23); rwa [World.size_alloc] at this
  have HRR := Lib.hid hR
  have HSS := Lib.hid hS
  have HTT := Lib.hid ht
  clear hR hS ht
  go_enter Try.func35, Try.ntmps35
  go_wp2_with fail
  generalize hw0 : (w.alloc (.cells #[.int .i64 (g : Int), .slice Ar rels.length cr] 40)).alloc (.cells #[.slice At t.length ct] 23) = w0 at *
  obtain ⟨hb0, hsz, hbp, hbt⟩ := HPB.out w0 rfl
  have HB0 := Lib.hid hb0
  have HSZ := Lib.hid hsz
  have HBP := Lib.hid hbp
  have HBX : Hid (∀ W, Below w0.heap.size w0 W → W.cell? ⟨w.heap.size, 0, none⟩ = some (.int .i64 (g : Int)) ∧ W.cell? ⟨w.heap.size, 1, none⟩ = some (.slice Ar rels.length cr) ∧ W.cell? ⟨w.heap.size + 1, 0, none⟩ = some (.slice At t.length ct)) := Lib.hid fun W h => by
    obtain ⟨a, b⟩ := cell_of2 ((h.block _ (Array.getElem?_eq_some_iff.1 hbp).1).trans hbp)
    exact ⟨a, b, (cell_of1 ((h.block _ (Array.getElem?_eq_some_iff.1 hbt).1).trans hbt)).1⟩
  have HB00 := Lib.hid (Below.refl w0.heap.size w0)
  clear hw0 hb0 hsz hbp hbt HPB
  go_wp2_with (first
    | ((with_reducible refine wpList_sel 19 ?_); refine wpList_val rfl (r_loadAt 40 (.tmp 3) _ _ rfl rfl (load40 HBP.out)) ?_)
    | (go_at_call 78; (refine (H78.out w0 (kept_tab.below HRR.out HB0.out)).mono ?_); rintro e w1 ⟨⟨y, rfl⟩, hb⟩
       have HB1 := Lib.hid hb
       obtain ⟨p1, q1, t1⟩ := HBX.out _ hb
       clear hb)
    | (go_at_call 81; (refine (H81.out _ _ (HBX.out _ HB1.out).1 (kept_tab.below HSS.out (HB0.out.trans (HB1.out.mono HB0.out.size)))).mono ?_); rintro e w2 ⟨rfl, hb⟩
       have HB2 := Lib.hid (HB1.out.trans (hb.mono HB1.out.size))
       obtain ⟨p2, q2, t2⟩ := HBX.out _ HB2.out
       clear hb p1 q1 t1)
    | (go_at_call 43; (refine (H43.out _ (kept_tab.below HTT.out (HB0.out.trans (HB2.out.mono HB0.out.size)))).mono ?_); rintro e w3 ⟨⟨y3, rfl⟩, hb⟩
       have HB3 := Lib.hid (HB2.out.trans (hb.mono HB2.out.size))
       obtain ⟨p3, q3, t3⟩ := HBX.out _ HB3.out
       clear hb p2 q2 t2)
    | (go_at_call 45; (refine (H45.out _ (kept_tab.below HTT.out (HB0.out.trans (HB3.out.mono HB0.out.size)))).mono ?_); rintro e w4 ⟨rfl, hb⟩
       have HB4 := Lib.hid (HB3.out.trans (hb.mono HB3.out.size))
       obtain ⟨p4, q4, t4⟩ := HBX.out _ HB4.out
       clear hb p3 q3 t3))
  go_ret2
  exact ⟨ret_bi (by rw [HE.out]) (by rw [HE.out]), HB0.out.trans (HB4.out.mono HB0.out.size)⟩
set_option maxRecDepth 100000 in
set_option maxHeartbeats 2000000 in
theorem holds35_good (w : World) (vr vs vt : Value) (g : Nat) (rels sub : List W) (t : Tb) (hR : Tab w vr rels) (hS : Tab w vs sub) (ht : Tab w vt t) (hg16 : g ≤ 16) (he : presE g rels = 0) (hs : (sub.any fun w => w.any (letBad g)) = false) (hc : (check g t).1 = 0) (hp : complete t = true) (hg : TGood g t) : Calls Try.prog 35 #[.agg #[.int .i64 (g : Int), vr], vs, vt] w (HoldsPost g rels sub t w) := by
  obtain ⟨Ar, cr, rfl⟩ := Tab.form hR
  obtain ⟨As, cs, rfl⟩ := Tab.form hS
  obtain ⟨At, ct, rfl⟩ := Tab.form ht
  have HRC := Lib.hid hR.cells
  have hrl1 := hR.len_le
  have hsl1 := hS.len_le
  have HSC := Lib.hid hS.cells
  have H78 : Hid (∀ W, Tab W (.slice Ar rels.length cr) rels → Calls Try.prog 78 #[.agg #[.int .i64 (g : Int), .slice Ar rels.length cr]] W fun e w' => (∃ y, e = .returned (.tuple #[.int .i64 (presE (g : Int) rels), .int .i64 y])) ∧ Below W.heap.size W w') := Lib.hid fun W h => pcheck78_any W _ _ rels h
  have H81 : Hid (∀ (W : World) (B : Nat), W.cell? ⟨B, 0, none⟩ = some (.int .i64 (g : Int)) → Tab W (.slice As sub.length cs) sub → Calls Try.prog 81 #[.slice As sub.length cs, .func (.func 91) #[] #[.pointer (some ⟨B, 0, none⟩)]] W fun e w' => e = .returned (.bool (sub.any fun w => w.any (letBad g))) ∧ Below W.heap.size W w') := Lib.hid fun W B hc h =>
    has81_any 91 _ (fun w => w.any (letBad g)) W eg91 _ sub h fun W' u k hb hk hI => neg91_any W' B g u _ hg16 ((hb.cell (p := ⟨B, 0, none⟩) (World.block_lt_of_cell? _ _ hc)).trans hc) hI
  have H43 : Hid (∀ W, Tab W (.slice At t.length ct) t → Calls Try.prog 43 #[.int .i64 (g : Int), .slice At t.length ct] W fun e w' => (∃ y, e = .returned (.tuple #[.int .i64 (check g t).1, .int .i64 y])) ∧ Below W.heap.size W w') := Lib.hid fun W h => (check43_any W _ _ t h).mono fun e w' ⟨a, b⟩ => ⟨⟨_, a⟩, b⟩
  have H45 : Hid (∀ W, Tab W (.slice At t.length ct) t → Calls Try.prog 45 #[.slice At t.length ct] W fun e w' => e = .returned (.bool (complete t)) ∧ Below W.heap.size W w') := Lib.hid fun W h => complete45_any W _ t h
  have HRL : Hid (∀ j, j < rels.length → LetsOk g (rels.getD j [])) := Lib.hid fun j hj => by
    obtain ⟨gn, e, -, -, -, h⟩ := presE_good he
    obtain rfl : g = gn := by omega
    exact (h j hj).1
  have HSL := Lib.hid (subs_good hs)
  have HG := Lib.hid hg
  have HCP := Lib.hid hp
  have hn2 := hg.n2
  rw [he] at H78
  have HE : Hid (holdsE g rels sub t = (holdsB rels sub t, 0)) := Lib.hid (by unfold holdsE; rw [if_neg (by rw [he]; simp), Int.toNat_natCast, if_neg (by rw [hs]; simp), if_neg (by rw [hc]; simp)])
  rw [hs] at H81
  rw [hc] at H43
  rw [hp] at H45
  have hrl0 : (0 : Int) ≤ (rels.length : Int) := Int.natCast_nonneg _
  have htl0 : (0 : Int) ≤ (t.length : Int) := Int.natCast_nonneg _
  have hsl0 : (0 : Int) ≤ (sub.length : Int) := Int.natCast_nonneg _
  clear he hs hg16 hc hp hg
  have HPB : Hid (∀ w0 : World, w0 = (w.alloc (.cells #[.int .i64 (g : Int), .slice Ar rels.length cr] 40)).alloc (.cells #[.slice At t.length ct] 23) → Below w.heap.size w w0 ∧ w0.heap.size = w.heap.size + 2 ∧ w0.heap[w.heap.size]? = some (.cells #[.int .i64 (g : Int), .slice Ar rels.length cr] 40 (0, 0)) ∧ w0.heap[w.heap.size + 1]? = some (.cells #[.slice At t.length ct] 23 (0, 0))) := Lib.hid fun w0 h => by
    subst h
    refine ⟨((Below.refl _ _).alloc (Nat.le_refl _) _).alloc (by simp) _, by simp, ?_, ?_⟩
    · exact (Below.heap_alloc (w.alloc _) _ w.heap.size (by simp)).trans (heap_alloc_new w _)
    · have := heap_alloc_new (w.alloc (.cells #[.int .i64 (g : Int), .slice Ar rels.length cr] 40)) (.cells #[.slice At t.length ct] 23); rwa [World.size_alloc] at this
  have HRR := Lib.hid hR
  have HSS := Lib.hid hS
  have HTT := Lib.hid ht
  clear hR hS ht
  go_enter Try.func35, Try.ntmps35
  go_wp2_with fail
  generalize hw0 : (w.alloc (.cells #[.int .i64 (g : Int), .slice Ar rels.length cr] 40)).alloc (.cells #[.slice At t.length ct] 23) = w0 at *
  obtain ⟨hb0, hsz, hbp, hbt⟩ := HPB.out w0 rfl
  have HB0 := Lib.hid hb0
  have HSZ := Lib.hid hsz
  have HBP := Lib.hid hbp
  have HBX : Hid (∀ W, Below w0.heap.size w0 W → W.cell? ⟨w.heap.size, 0, none⟩ = some (.int .i64 (g : Int)) ∧ W.cell? ⟨w.heap.size, 1, none⟩ = some (.slice Ar rels.length cr) ∧ W.cell? ⟨w.heap.size + 1, 0, none⟩ = some (.slice At t.length ct)) := Lib.hid fun W h => by
    obtain ⟨a, b⟩ := cell_of2 ((h.block _ (Array.getElem?_eq_some_iff.1 hbp).1).trans hbp)
    exact ⟨a, b, (cell_of1 ((h.block _ (Array.getElem?_eq_some_iff.1 hbt).1).trans hbt)).1⟩
  have HB00 := Lib.hid (Below.refl w0.heap.size w0)
  clear hw0 hb0 hsz hbp hbt HPB
  go_wp2_with (first
    | ((with_reducible refine wpList_sel 19 ?_); refine wpList_val rfl (r_loadAt 40 (.tmp 3) _ _ rfl rfl (load40 HBP.out)) ?_)
    | (go_at_call 78; (refine (H78.out w0 (kept_tab.below HRR.out HB0.out)).mono ?_); rintro e w1 ⟨⟨y, rfl⟩, hb⟩
       have HB1 := Lib.hid hb
       obtain ⟨p1, q1, t1⟩ := HBX.out _ hb
       clear hb)
    | (go_at_call 81; (refine (H81.out _ _ (HBX.out _ HB1.out).1 (kept_tab.below HSS.out (HB0.out.trans (HB1.out.mono HB0.out.size)))).mono ?_); rintro e w2 ⟨rfl, hb⟩
       have HB2 := Lib.hid (HB1.out.trans (hb.mono HB1.out.size))
       obtain ⟨p2, q2, t2⟩ := HBX.out _ HB2.out
       clear hb p1 q1 t1)
    | (go_at_call 43; (refine (H43.out _ (kept_tab.below HTT.out (HB0.out.trans (HB2.out.mono HB0.out.size)))).mono ?_); rintro e w3 ⟨⟨y3, rfl⟩, hb⟩
       have HB3 := Lib.hid (HB2.out.trans (hb.mono HB2.out.size))
       obtain ⟨p3, q3, t3⟩ := HBX.out _ HB3.out
       clear hb p2 q2 t2)
    | (go_at_call 45; (refine (H45.out _ (kept_tab.below HTT.out (HB0.out.trans (HB3.out.mono HB0.out.size)))).mono ?_); rintro e w4 ⟨rfl, hb⟩
       have HB4 := Lib.hid (HB3.out.trans (hb.mono HB3.out.size))
       obtain ⟨p4, q4, t4⟩ := HBX.out _ HB4.out
       clear hb p3 q3 t3))
  go_loopw [45] (fun i wr => ∃ k : Nat, i = .int .i64 k ∧ k ≤ sub.length ∧ Hid (∀ j, j < k → leads t 0 (sub.getD j []) = 0) ∧ Hid (Below w0.heap.size w0 wr)) (fun i _ => sub.length - (intOf i).toNat)
  case atStart => exact ⟨0, rfl, by omega, Lib.hid fun j hj => absurd hj (by omega), HB4⟩
  case round =>
    clear p4 q4 t4 HB4
    obtain ⟨k, rfl, hk, HZ, HB⟩ := hrel
    have hk0 : (0 : Int) ≤ (k : Int) := Int.natCast_nonneg _
    obtain ⟨p5, q5, t5⟩ := HBX.out _ HB.out
    have HBW := Lib.hid (HB0.out.trans (HB.out.mono HB0.out.size))
    by_cases hlt : k < sub.length
    · have hlt' : (k : Int) < (sub.length : Int) := by omega
      obtain ⟨b, o, rfl, hcc⟩ := HSC.out (by omega)
      obtain ⟨u, hu, hI⟩ := hcc k hlt
      have hu' := (HBW.out.cell (p := ⟨b, o + k, none⟩) (World.block_lt_of_cell? w _ hu)).trans hu
      have HI := Lib.hid (hI.below HBW.out)
      obtain ⟨Au, cu, rfl, -, -, -⟩ := hI.open_
      have HBA : Hid (Below wr.heap.size wr (wr.alloc (.cells #[.int .i64 0] 3))) := Lib.hid ((Below.refl _ _).alloc (Nat.le_refl _) _)
      have h93 := stay93 (wr.alloc (.cells #[.int .i64 0] 3)) (w.heap.size + 1) wr.heap.size (.slice At t.length ct) (.slice Au (sub.getD k []).length cu) g t 0 (sub.getD k []) ((HBX.out _ (HB.out.trans (HBA.out.mono HB.out.size))).2.2) (cell_of1 (heap_alloc_new wr _)).1
        (kept_tab.below HTT.out (HBW.out.trans (HBA.out.mono HBW.out.size))) (HI.out.below HBA.out) HG.out (HSL.out k hlt) (by have := HG.out.n1; omega)
      have HN : Hid (leads t 0 (sub.getD k []) = 0 → ∀ j, j < k + 1 → leads t 0 (sub.getD j []) = 0) := Lib.hid fun h => all_succ HZ.out h
      have HF : Hid (leads t 0 (sub.getD k []) ≠ 0 → holdsB rels sub t = false) := Lib.hid fun h => holds_sub hlt h
      have H93 := Lib.hid h93
      clear hcc hu hI h93
      simp only [Int.natCast_zero] at H93
      generalize sub.getD k [] = ws at *
      by_cases hz : leads t 0 ws = 0
      · rw [decide_eq_true hz] at H93
        have HN2 := Lib.hid (HN.out hz)
        clear hz HN HF
        go_wp2_with (first
          | (go_at_call 92; (with_reducible refine (stay92 _ _ _).mono ?_); rintro e w' ⟨rfl, rfl⟩)
          | (go_at_call 93; (with_reducible refine H93.out.mono ?_); rintro e w6 ⟨rfl, hb⟩; have HB6 := Lib.hid ((HB.out.trans (HBA.out.mono HB.out.size)).trans (hb.mono (HB.out.trans (HBA.out.mono HB.out.size)).size)); clear hb))
        go_roundw
        case rel => exact ⟨k + 1, by go_num, by omega, HN2, HB6⟩
        case measure => simp [intOf]; omega
      · rw [decide_eq_false hz] at H93
        have HF2 := Lib.hid (HF.out hz)
        clear hz HN HF
        go_wp2_with (first
          | (go_at_call 92; (with_reducible refine (stay92 _ _ _).mono ?_); rintro e w' ⟨rfl, rfl⟩)
          | (go_at_call 93; (with_reducible refine H93.out.mono ?_); rintro e w6 ⟨rfl, hb⟩; have HB6 := Lib.hid ((HB.out.trans (HBA.out.mono HB.out.size)).trans (hb.mono (HB.out.trans (HBA.out.mono HB.out.size)).size)); clear hb))
        go_ret2
        exact ⟨ret_bi (by rw [HE.out, HF2.out]) (by rw [HE.out]), HB0.out.trans (HB6.out.mono HB0.out.size)⟩
    · obtain rfl : k = sub.length := by omega
      rename World => w5
      go_wp2_with fail
      go_loopw [57] (fun i wr => ∃ r : Nat, i = .int .i64 r ∧ r ≤ t.length ∧ Hid (∀ j, j < r → staysB t (j : Int) rels = true) ∧ Hid (Below w0.heap.size w0 wr)) (fun i _ => t.length - (intOf i).toNat)
      case atStart => exact ⟨0, rfl, by omega, Lib.hid fun j hj => absurd hj (by omega), HB⟩
      case round =>
        clear p5 q5 t5 HB HBW
        obtain ⟨r, rfl, hr, HZR, HB⟩ := hrel
        have hr0 : (0 : Int) ≤ (r : Int) := Int.natCast_nonneg _
        obtain ⟨p5, q5, t5⟩ := HBX.out _ HB.out
        by_cases hrl : r < t.length
        · have hrl' : (r : Int) < (t.length : Int) := by omega
          rename World => w6
          go_wp2_with fail
          go_loopw [63] (fun i wr => ∃ k : Nat, i = .int .i64 k ∧ k ≤ rels.length ∧ Hid (∀ j, j < k → leads t r (rels.getD j []) = r) ∧ Hid (Below w0.heap.size w0 wr)) (fun i _ => rels.length - (intOf i).toNat)
          case atStart => exact ⟨0, rfl, by omega, Lib.hid fun j hj => absurd hj (by omega), HB⟩
          case round =>
            clear p5 q5 t5 HB
            obtain ⟨k, rfl, hk, HZK, HB⟩ := hrel
            have hk0 : (0 : Int) ≤ (k : Int) := Int.natCast_nonneg _
            obtain ⟨p5, q5, t5⟩ := HBX.out _ HB.out
            have HBW := Lib.hid (HB0.out.trans (HB.out.mono HB0.out.size))
            by_cases hlt : k < rels.length
            · have hlt' : (k : Int) < (rels.length : Int) := by omega
              obtain ⟨b, o, rfl, hcc⟩ := HRC.out (by omega)
              obtain ⟨u, hu, hI⟩ := hcc k hlt
              have hu' := (HBW.out.cell (p := ⟨b, o + k, none⟩) (World.block_lt_of_cell? w _ hu)).trans hu
              have HI := Lib.hid (hI.below HBW.out)
              obtain ⟨Au, cu, rfl, -, -, -⟩ := hI.open_
              have HBA : Hid (Below wr.heap.size wr (wr.alloc (.cells #[.int .i64 (r : Int)] 3))) := Lib.hid ((Below.refl _ _).alloc (Nat.le_refl _) _)
              have h93 := stay93 (wr.alloc (.cells #[.int .i64 (r : Int)] 3)) (w.heap.size + 1) wr.heap.size (.slice At t.length ct) (.slice Au (rels.getD k []).length cu) g t r (rels.getD k []) ((HBX.out _ (HB.out.trans (HBA.out.mono HB.out.size))).2.2) (cell_of1 (heap_alloc_new wr _)).1
                (kept_tab.below HTT.out (HBW.out.trans (HBA.out.mono HBW.out.size))) (HI.out.below HBA.out) HG.out (HRL.out k hlt) hrl
              have HN : Hid (leads t r (rels.getD k []) = r → ∀ j, j < k + 1 → leads t r (rels.getD j []) = r) := Lib.hid fun h => all_succ HZK.out h
              have HF : Hid (leads t r (rels.getD k []) ≠ r → holdsB rels sub t = false) := Lib.hid fun h => holds_rel hrl hlt h
              have H93 := Lib.hid h93
              clear hcc hu hI h93
              generalize rels.getD k [] = ws at *
              by_cases hz : leads t r ws = r
              · rw [decide_eq_true hz] at H93
                have HN2 := Lib.hid (HN.out hz)
                clear hz HN HF
                go_wp2_with (first
                  | (go_at_call 92; (with_reducible refine (stay92 _ _ _).mono ?_); rintro e w' ⟨rfl, rfl⟩)
                  | (go_at_call 93; (with_reducible refine H93.out.mono ?_); rintro e w8 ⟨rfl, hb⟩; have HB8 := Lib.hid ((HB.out.trans (HBA.out.mono HB.out.size)).trans (hb.mono (HB.out.trans (HBA.out.mono HB.out.size)).size)); clear hb))
                go_roundw
                case rel => exact ⟨k + 1, by go_num, by omega, HN2, HB8⟩
                case measure => simp [intOf]; omega
              · rw [decide_eq_false hz] at H93
                have HF2 := Lib.hid (HF.out hz)
                clear hz HN HF
                go_wp2_with (first
                  | (go_at_call 92; (with_reducible refine (stay92 _ _ _).mono ?_); rintro e w' ⟨rfl, rfl⟩)
                  | (go_at_call 93; (with_reducible refine H93.out.mono ?_); rintro e w8 ⟨rfl, hb⟩; have HB8 := Lib.hid ((HB.out.trans (HBA.out.mono HB.out.size)).trans (hb.mono (HB.out.trans (HBA.out.mono HB.out.size)).size)); clear hb))
                go_ret2
                exact ⟨ret_bi (by rw [HE.out, HF2.out]) (by rw [HE.out]), HB0.out.trans (HB8.out.mono HB0.out.size)⟩
            · obtain rfl : k = rels.length := by omega
              rename World => w9
              go_wp2_with fail
              go_roundw
              case rel => exact ⟨r + 1, by go_num, by omega, Lib.hid (all_succ HZR.out (staysB_true HZK.out)), HB⟩
              case measure => simp [intOf]; omega
        · obtain rfl : r = t.length := by omega
          rename World => w7
          go_wp2_with fail
          go_ret2
          exact ⟨ret_bi (by rw [HE.out, holds_true HCP.out HZ.out HZR.out]) (by rw [HE.out]), HB0.out.trans (HB.out.mono HB0.out.size)⟩
theorem holds35_any (w : World) (vr vs vt : Value) (g : Int) (rels sub : List W) (t : Tb) (hR : Tab w vr rels) (hS : Tab w vs sub) (ht : Tab w vt t) : Calls Try.prog 35 #[.agg #[.int .i64 g, vr], vs, vt] w (HoldsPost g rels sub t w) := by
  by_cases he : presE g rels = 0
  · obtain ⟨gn, rfl, h1, h2, -, -⟩ := presE_good he
    cases hs : (sub.any fun w => w.any (letBad gn)) with
    | true => exact holds35_sub w vr vs vt gn rels sub t hR hS ht h2 he hs
    | false =>
      by_cases hc : (check gn t).1 = 0
      · obtain ⟨-, hg, -⟩ := check_good hc
        cases hp : complete t with
        | true => exact holds35_good w vr vs vt gn rels sub t hR hS ht h2 he hs hc hp hg
        | false => exact holds35_part w vr vs vt gn rels sub t hR hS ht h2 he hs hc hp
      · exact holds35_chk w vr vs vt gn rels sub t hR hS ht h2 he hs hc
  · exact holds35_pres w vr vs vt g rels sub t hR hS ht he
end Go.Proofs
namespace Go.Proofs
open Go.RowKit Go.Shelf Go.Proofs.Ct Go.Maps
theorem box_cells5 {w : World} {b : Nat} {v0 v1 v2 v3 v4 : Value} {e : TypeId} (hc : w.heap[b]? = some (.cells #[v0, v1, v2, v3, v4] e (0, 0))) : w.cell? ⟨b, 0, none⟩ = some v0 ∧ w.cell? ⟨b, 1, none⟩ = some v1 ∧ w.cell? ⟨b, 2, none⟩ = some v2 ∧ w.cell? ⟨b, 3, none⟩ = some v3 ∧ w.cell? ⟨b, 4, none⟩ = some v4 :=
  ⟨by rw [cell_of_row _ _ _ _ _ _ hc]; rfl, by rw [cell_of_row _ _ _ _ _ _ hc]; rfl, by rw [cell_of_row _ _ _ _ _ _ hc]; rfl, by rw [cell_of_row _ _ _ _ _ _ hc]; rfl, by rw [cell_of_row _ _ _ _ _ _ hc]; rfl⟩
end Go.Proofs
namespace Go.Proofs
open Go.RowKit Go.Shelf Go.Proofs.Ct Go.Maps
def zero99 : Array Value := #[.int .i64 0, .slice none 0 0, .slice none 0 0, .slice none 0 0, .int .i64 0]
section
variable {o : Oper} {a : Act} {w w' : World} {n : Nat} {v : Value}
end
/-- block b is the numbers x, no more -/
def XE (w : World) (b : Nat) (x : List Int) : Prop := w.heap[b]? = some (.cells (ints x).toArray 3 (0, 0))
theorem XE.set {w : World} {b : Nat} {x : List Int} (h : XE w b x) (k : Nat) (v : Int) : XE (w.setCell ⟨b, k, none⟩ (.int .i64 v)) b (x.set k v) := by
  unfold XE at h ⊢
  have : (ints x).toArray.setIfInBounds k (.int .i64 v) = (ints (x.set k v)).toArray := by simp [ints, List.map_set]
  rw [← this]
  simp [World.setCell, Array.getElem?_modify, h]
theorem XE.own {w : World} {b base : Nat} {x : List Int} (h : XE w b x) (hb : base ≤ b) {n : Nat} (hn : x.length = n) (hm : n ≤ 1000000) : OwnI base w (.slice (some ⟨b, 0, none⟩) n n) x := by
  subst hn
  refine ⟨by simp [ints], .inr ⟨b, x.length, (ints x).toArray, rfl, hb, h, Nat.le_refl _, ?_, by simp [ints], ?_⟩⟩
  · have : x.length ≤ 9223372036854775807 := by omega
    simpa [maxLen] using this
  · simp only [Nat.mul_one]
    exact List.take_of_length_le (by simp [ints])
theorem XE.frozen {w : World} {b : Nat} {x : List Int} (h : XE w b x) (k : Nat) : w.frozen? ⟨b, k, none⟩ = false := by
  simp [World.frozen?, show w.heap[b]? = _ from h]
theorem XE.cell {w : World} {b : Nat} {x : List Int} (h : XE w b x) {k : Nat} (hk : k < x.length) : w.cell? ⟨b, k, none⟩ = some (.int .i64 (x.getD k 0)) := by
  rw [cell_of_row _ _ _ _ _ _ (show w.heap[b]? = _ from h)]
  simp [ints, hk, List.getD_eq_getElem?_getD]
end Go.Proofs
