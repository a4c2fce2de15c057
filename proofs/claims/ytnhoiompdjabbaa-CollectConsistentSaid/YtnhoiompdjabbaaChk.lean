/- The contracts of collect.Check and its closures. -/
import Derived.Test.YtnhoiompdjabbaaNrm
namespace Go.Proofs
open Go.RowKit Go.Proofs.Pc

/-- The presentation p by value: its three slices read as P. -/
def PcAt (w : World) (v0 v1 v2 : Value) (P : PcD) : Prop := IntsAt w v0 P.orders ∧ Tab w v1 P.powers ∧ Tab3 w v2 P.conj
theorem PcAt.keep {w w' : World} {v0 v1 v2 : Value} {P : PcD} (h : PcAt w v0 v1 v2 P) (hk : ∀ k, k < w.heap.size → w'.heap[k]? = w.heap[k]?) : PcAt w' v0 v1 v2 P :=
  ⟨kept_ints _ _ _ _ hk h.1, kept_tab _ _ _ _ hk h.2.1, kept_tab3 _ _ _ _ hk h.2.2⟩
theorem PcAt.below {w w' : World} {v0 v1 v2 : Value} {P : PcD} (h : PcAt w v0 v1 v2 P) (hb : Below w.heap.size w w') : PcAt w' v0 v1 v2 P := h.keep hb.block

set_option maxHeartbeats 400000 in
theorem lists_any (w : World) (bn bp : Nat) (v0 vl : Value) (P : PcD) (l : List Int) (above : Int) (hn : w.cell? ⟨bn, 0, none⟩ = some (.int .i64 P.n)) (hp : w.cell? ⟨bp, 0, none⟩ = some v0)
    (h0 : IntsAt w v0 P.orders) (hl : IntsAt w vl l) :
    Calls Try.prog 56 #[vl, .int .i64 above, .pointer (some ⟨bn, 0, none⟩), .pointer (some ⟨bp, 0, none⟩)] w fun e w' => e = .returned (.int .i64 (listErr P l above)) ∧ w = w' := by
  have H0 := Lib.hid h0
  have HL := Lib.hid hl
  obtain ⟨A, ca, rfl, ha1, ha2, _⟩ := hl.open_
  clear h0 hl
  by_cases hlen : l.length = P.n
  · have d1 : (l.length != P.n) = false := by simpa using hlen
    have HE := Lib.hid hlen
    clear hlen
    cases hb : normalB P.orders l above
    · have HB := Lib.hid hb
      have hq : listErr P l above = 2 := by unfold listErr; rw [if_pos HE.out, HB.out]; rfl
      have HQ := Lib.hid hq
      clear hb hq
      go_enter Try.func56, Try.ntmps56
      go_wp2_with (go_at_call 57; refine (normal_any _ _ _ _ _ _ H0.out HL.out (by rw [HE.out]; exact Nat.le_refl _)).mono ?_; rintro e w' ⟨rfl, rfl⟩; rw [HB.out])
      go_ret
      exact ⟨ret_int HQ.out.symm, rfl⟩
    · have HB := Lib.hid hb
      have hq : listErr P l above = 0 := by unfold listErr; rw [if_pos HE.out, HB.out]; rfl
      have HQ := Lib.hid hq
      clear hb hq
      go_enter Try.func56, Try.ntmps56
      go_wp2_with (go_at_call 57; refine (normal_any _ _ _ _ _ _ H0.out HL.out (by rw [HE.out]; exact Nat.le_refl _)).mono ?_; rintro e w' ⟨rfl, rfl⟩; rw [HB.out])
      go_ret
      exact ⟨ret_int HQ.out.symm, rfl⟩
  · have d1 : (l.length != P.n) = true := by simpa using hlen
    have hq : listErr P l above = 3 := by unfold listErr; rw [if_neg hlen]
    have HQ := Lib.hid hq
    clear hq
    go_enter Try.func56, Try.ntmps56
    go_wp2_with fail
    go_ret
    exact ⟨ret_int HQ.out.symm, rfl⟩

set_option maxHeartbeats 400000 in
theorem chk2_any (w : World) (bn bp : Nat) (v0 v1 v2 : Value) (P : PcD) (hn : w.cell? ⟨bn, 0, none⟩ = some (.int .i64 P.n)) (hp1 : w.cell? ⟨bp, 1, none⟩ = some v1) (hp2 : w.cell? ⟨bp, 2, none⟩ = some v2) (hP : PcAt w v0 v1 v2 P) :
    Calls Try.prog 58 #[.pointer (some ⟨bn, 0, none⟩), .pointer (some ⟨bp, 0, none⟩)] w fun e w' => e = .returned (.tuple #[.int .i64 (lenErr P), .int .i64 0]) ∧ w = w' := by
  obtain ⟨A1, c1, rfl, ha1, ha2, _⟩ := hP.2.1.open_
  obtain ⟨A2, c2, rfl, hb1, hb2, _⟩ := hP.2.2.open_
  clear hP
  unfold lenErr
  by_cases h12 : P.n ≤ 12
  · rw [if_pos h12]
    by_cases h1 : P.powers.length = P.n
    · by_cases h2 : P.conj.length = P.n
      · rw [if_pos ⟨h1, h2⟩]
        have d1 : (P.powers.length != P.n) = false := by simpa using h1
        have d2 : (P.conj.length != P.n) = false := by simpa using h2
        clear h1 h2
        go_enter Try.func58, Try.ntmps58
        go_wp2_with fail
        go_ret2
        exact ⟨rfl, rfl⟩
      · rw [if_neg (fun h => h2 h.2)]
        have d1 : (P.powers.length != P.n) = false := by simpa using h1
        have d2 : (P.conj.length != P.n) = true := by simpa using h2
        clear h1 h2
        go_enter Try.func58, Try.ntmps58
        go_wp2_with fail
        go_ret2
        exact ⟨rfl, rfl⟩
    · rw [if_neg (fun h => h1 h.1)]
      have d1 : (P.powers.length != P.n) = true := by simpa using h1
      clear h1
      go_enter Try.func58, Try.ntmps58
      go_wp2_with fail
      go_ret2
      exact ⟨rfl, rfl⟩
  · rw [if_neg h12]
    go_enter Try.func58, Try.ntmps58
    go_wp2_with fail
    go_ret2
    exact ⟨rfl, rfl⟩

/-- the predicate of the relative orders -/
theorem ordPred_any (w : World) (x : Int) : Calls Try.prog 61 #[.int .i64 x] w fun e w' => e = .returned (.bool (decide (x < 2 ∨ 1000 < x))) ∧ w = w' := by
  by_cases h1 : x < 2
  · go_enter Try.func61, Try.ntmps61
    go_wp2_with fail
    go_ret
    exact ⟨ret_bool (by first | (simp; done) | (simp; omega)), rfl⟩
  · by_cases h2 : 1000 < x
    · go_enter Try.func61, Try.ntmps61
      go_wp2_with fail
      go_ret
      exact ⟨ret_bool (by first | (simp; done) | (simp; omega)), rfl⟩
    · go_enter Try.func61, Try.ntmps61
      go_wp2_with fail
      go_ret
      exact ⟨ret_bool (by first | (simp; done) | (simp; omega)), rfl⟩

def ordBad (l : List Int) (k : Nat) : Prop := l.getD k 0 < 2 ∨ 1000 < l.getD k 0
instance (l : List Int) (k : Nat) : Decidable (ordBad l k) := by unfold ordBad; infer_instance

def IdxSays (l : List Int) (r : Int) : Prop := ((r = -1 ∧ ∀ k, k < l.length → ¬ ordBad l k) ∨ (∃ k : Nat, r = k ∧ k < l.length ∧ ordBad l k ∧ ∀ j, j < k → ¬ ordBad l j))

/-- slices.IndexFunc on the relative orders: the first bad one, or -1. -/
theorem indexFunc_any (w : World) (v : Value) (l : List Int) (h : IntsAt w v l) :
    Calls Try.prog 60 #[v, .func (.func 61) #[] #[]] w fun e w' => (∃ r : Int, e = .returned (.int .i64 r) ∧ -1 ≤ r ∧ r ≤ 9223372036854775806 ∧ IdxSays l r) ∧ w = w' := by
  obtain ⟨A, ca, rfl, ha1, ha2, ha⟩ := h.open_
  clear h
  have HA := Lib.hid ha
  clear ha
  go_enter Try.func60, Try.ntmps60
  go_wp2_with fail
  go_loop [5, 8] (fun _ i => ∃ k : Nat, k ≤ l.length ∧ i = .int .i64 k ∧ ∀ j, j < k → ¬ ordBad l j) (fun _ i => l.length - (intOf i).toNat)
  case atStart => exact ⟨0, Nat.zero_le _, rfl, fun j hj => absurd hj (by omega)⟩
  case round =>
    obtain ⟨k, hk, rfl, hall⟩ := hrel
    have HL := Lib.hid hall
    clear hall
    by_cases hlt : k < l.length
    · obtain ⟨b, off, rfl, hc⟩ := HA.out (by omega)
      have c1 := hc k hlt
      have hbad : ordBad l k ↔ (l.getD k 0 < 2 ∨ 1000 < l.getD k 0) := Iff.rfl
      have HBad := Lib.hid hbad
      clear hc hbad
      generalize l.getD k 0 = x at *
      by_cases hx : x < 2 ∨ 1000 < x
      · have hd : decide (x < 2 ∨ 1000 < x) = true := decide_eq_true hx
        have HD := Lib.hid hd
        have HX := Lib.hid hx
        clear hd hx
        go_wp2_with (go_at_call 61; refine (ordPred_any _ x).mono ?_; rintro e w' ⟨rfl, rfl⟩; rw [HD.out])
        go_ret
        exact ⟨⟨k, rfl, by omega, by omega, .inr ⟨k, rfl, hlt, HBad.out.2 HX.out, HL.out⟩⟩, rfl⟩
      · have hd : decide (x < 2 ∨ 1000 < x) = false := decide_eq_false hx
        have HD := Lib.hid hd
        have HX := Lib.hid hx
        clear hd hx
        go_wp2_with (go_at_call 61; refine (ordPred_any _ x).mono ?_; rintro e w' ⟨rfl, rfl⟩; rw [HD.out])
        go_round
        case rel => exact ⟨k + 1, by omega, by go_num, fun j hj => by
          rcases Nat.lt_or_ge j k with h | h
          · exact HL.out j h
          · obtain rfl : j = k := by omega
            exact fun hh => HX.out (HBad.out.1 hh)⟩
        case measure => simp [intOf]; omega
    · go_wp2_with fail
      go_ret
      exact ⟨⟨-1, rfl, by omega, by omega, .inl ⟨rfl, fun j hj => HL.out j (by omega)⟩⟩, rfl⟩

theorem ordErr_bad {P : PcD} {k : Nat} : ordBad P.orders k ↔ ordErr P k ≠ 0 := by
  unfold ordErr ordBad PcD.ord
  by_cases h : 2 ≤ P.orders.getD k 0 ∧ P.orders.getD k 0 ≤ 1000
  · rw [if_pos h]; constructor <;> intro h' <;> omega
  · rw [if_neg h]; constructor <;> intro h' <;> omega

theorem chk3_any (w : World) (bp : Nat) (v0 : Value) (P : PcD) (hp : w.cell? ⟨bp, 0, none⟩ = some v0) (h0 : IntsAt w v0 P.orders) :
    Calls Try.prog 59 #[.pointer (some ⟨bp, 0, none⟩)] w fun e w' => e = .returned (.tuple #[.int .i64 (firstP (ordErr P) P.n).1, .int .i64 (firstP (ordErr P) P.n).2]) ∧ w = w' := by
  have H0 := Lib.hid h0
  clear h0
  refine Calls.mono (R := fun e w' => (∃ r : Int, e = .returned (.tuple #[.int .i64 (if 0 ≤ r then 2 else 0), .int .i64 (if 0 ≤ r then r + 1 else 0)]) ∧ IdxSays P.orders r) ∧ w = w') ?_ ?_
  · go_enter Try.func59, Try.ntmps59
    go_wp2_with (go_at_call 60; refine (indexFunc_any _ _ _ H0.out).mono ?_; rintro e w' ⟨⟨r, rfl, hr1, hr2, hr⟩, rfl⟩; have HR := Lib.hid hr; clear hr)
    · have hr0 : 0 ≤ r := by assumption
      go_ret2
      exact ⟨⟨r, by rw [if_pos hr0, if_pos hr0]; rfl, HR.out⟩, rfl⟩
    · have hr0 : ¬ 0 ≤ r := by omega
      go_ret2
      exact ⟨⟨r, by rw [if_neg hr0, if_neg hr0]; rfl, HR.out⟩, rfl⟩
  · rintro e w' ⟨⟨r, rfl, hr⟩, rfl⟩
    refine ⟨?_, rfl⟩
    rcases hr with ⟨rfl, h⟩ | ⟨k, rfl, hk, hb, h⟩
    · have : firstP (ordErr P) P.n = (0, 0) := by
        have : ∀ n, n ≤ P.n → firstP (ordErr P) n = (0, 0) := by
          intro n
          induction n with
          | zero => intro _; rfl
          | succ n ih => intro hn; exact firstP_step (ih (by omega)) (Decidable.byContradiction fun hh => h n (by show n < P.n; omega) (ordErr_bad.2 hh))
        exact this _ (Nat.le_refl _)
      rw [this]; rfl
    · have h0 : ∀ n, n ≤ k → firstP (ordErr P) n = (0, 0) := by
        intro n
        induction n with
        | zero => intro _; rfl
        | succ n ih => intro hn; exact firstP_step (ih (by omega)) (Decidable.byContradiction fun hh => h n (by omega) (ordErr_bad.2 hh))
      rw [firstP_hit (h0 k (Nat.le_refl _)) (ordErr_bad.1 hb) P.n hk]
      have : ordErr P k = 2 := by
        have := ordErr_bad.1 hb
        unfold ordErr at this ⊢
        by_cases hc : 2 ≤ P.ord k ∧ P.ord k ≤ 1000
        · rw [if_pos hc] at this; exact absurd rfl this
        · rw [if_neg hc]
      rw [this, if_pos (by omega), if_pos (by omega)]
end Go.Proofs
