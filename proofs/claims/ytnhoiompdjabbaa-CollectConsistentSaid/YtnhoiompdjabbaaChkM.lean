/- Plain: what Check computes. -/
import Derived.Test.YtnhoiompdjabbaaModel
namespace Go.Proofs.Pc

def normAt (os xs : List Int) (above : Int) (k : Nat) : Bool := decide (0 ≤ xs.getD k 0) && (decide (xs.getD k 0 < os.getD k 0) && (!(decide ((k : Int) < above)) || decide (xs.getD k 0 ≤ 0)))
def normalB (os xs : List Int) (above : Int) : Bool := (List.range xs.length).all (normAt os xs above)

theorem normalB_false {os xs : List Int} {above : Int} {k : Nat} (hk : k < xs.length) (h : normAt os xs above k = false) : normalB os xs above = false := by
  unfold normalB
  rw [List.all_eq_false]
  exact ⟨k, by simpa using hk, by simp [h]⟩
theorem normalB_true {os xs : List Int} {above : Int} (h : ∀ k, k < xs.length → normAt os xs above k = true) : normalB os xs above = true := by
  unfold normalB
  rw [List.all_eq_true]
  intro k hk
  exact h k (by simpa using hk)
theorem normAt_iff (os xs : List Int) (above : Int) (k : Nat) : normAt os xs above k = true ↔ (0 ≤ xs.getD k 0 ∧ xs.getD k 0 < os.getD k 0 ∧ ((k : Int) < above → xs.getD k 0 ≤ 0)) := by
  unfold normAt
  simp only [Bool.and_eq_true, Bool.or_eq_true, Bool.not_eq_true', decide_eq_true_eq, decide_eq_false_iff_not]
  constructor
  · rintro ⟨h1, h2, h3⟩
    exact ⟨h1, h2, by omega⟩
  · rintro ⟨h1, h2, h3⟩
    exact ⟨h1, h2, by omega⟩
theorem normAt_iff' (os xs : List Int) (above : Int) (k : Nat) : normAt os xs above k = false ↔ ¬(0 ≤ xs.getD k 0 ∧ xs.getD k 0 < os.getD k 0 ∧ ((k : Int) < above → xs.getD k 0 ≤ 0)) := by
  rw [← normAt_iff]; simp
theorem normalB_iff (os xs : List Int) (above : Int) : normalB os xs above = true ↔ ∀ k, k < xs.length → normAt os xs above k = true := by
  unfold normalB
  rw [List.all_eq_true]
  exact ⟨fun h k hk => h k (by simpa using hk), fun h k hk => h k (by simpa using hk)⟩

/-- the first value that is not 0 -/
def firstNZ (f : Nat → Int) (n : Nat) : Int := foldTo (fun k a => if a = 0 then f k else a) n 0
theorem firstNZ_hit {f : Nat → Int} {k : Nat} (h0 : firstNZ f k = 0) (hk : f k ≠ 0) : ∀ (n : Nat), k < n → firstNZ f n = f k := by
  intro n hn
  induction n with
  | zero => omega
  | succ n ih =>
    show (if firstNZ f n = 0 then f n else firstNZ f n) = f k
    rcases Nat.lt_or_ge k n with h | h
    · rw [ih h, if_neg hk]
    · have : n = k := by omega
      subst this
      rw [h0, if_pos rfl]
theorem firstNZ_step {f : Nat → Int} {k : Nat} (h0 : firstNZ f k = 0) (hk : f k = 0) : firstNZ f (k + 1) = 0 := by
  show (if firstNZ f k = 0 then f k else firstNZ f k) = 0
  rw [h0, if_pos rfl, hk]
theorem firstNZ_zero {f : Nat → Int} : ∀ {n : Nat}, firstNZ f n = 0 → ∀ k, k < n → f k = 0 := by
  intro n
  induction n with
  | zero => intro _ k hk; omega
  | succ n ih =>
    intro h k hk
    have h' : (if firstNZ f n = 0 then f n else firstNZ f n) = 0 := h
    by_cases h0 : firstNZ f n = 0
    · rw [if_pos h0] at h'
      rcases Nat.lt_or_ge k n with h1 | h1
      · exact ih h0 k h1
      · have : k = n := by omega
        subst this; exact h'
    · rw [if_neg h0] at h'; exact absurd h' h0

/-- the first error and its place, counted from 1 -/
def firstP (f : Nat → Int) (n : Nat) : Int × Int := foldTo (fun k a => if a.1 = 0 then (if f k = 0 then (0, 0) else (f k, (k : Int) + 1)) else a) n (0, 0)
theorem firstP_hit {f : Nat → Int} {k : Nat} (h0 : firstP f k = (0, 0)) (hk : f k ≠ 0) : ∀ (n : Nat), k < n → firstP f n = (f k, (k : Int) + 1) := by
  intro n hn
  induction n with
  | zero => omega
  | succ n ih =>
    show (if (firstP f n).1 = 0 then (if f n = 0 then (0, 0) else (f n, (n : Int) + 1)) else firstP f n) = (f k, (k : Int) + 1)
    rcases Nat.lt_or_ge k n with h | h
    · rw [ih h, if_neg hk]
    · have : n = k := by omega
      subst this
      rw [h0, if_pos rfl, if_neg hk]
theorem firstP_step {f : Nat → Int} {k : Nat} (h0 : firstP f k = (0, 0)) (hk : f k = 0) : firstP f (k + 1) = (0, 0) := by
  show (if (firstP f k).1 = 0 then (if f k = 0 then (0, 0) else (f k, (k : Int) + 1)) else firstP f k) = (0, 0)
  rw [h0, if_pos rfl, if_pos hk]
theorem firstP_zero {f : Nat → Int} : ∀ {n : Nat}, (firstP f n).1 = 0 → ∀ k, k < n → f k = 0 := by
  intro n
  induction n with
  | zero => intro _ k hk; omega
  | succ n ih =>
    intro h k hk
    have h' : (if (firstP f n).1 = 0 then (if f n = 0 then (0, 0) else (f n, (n : Int) + 1)) else firstP f n).1 = 0 := h
    by_cases h0 : (firstP f n).1 = 0
    · rw [if_pos h0] at h'
      rcases Nat.lt_or_ge k n with h1 | h1
      · exact ih h0 k h1
      · have : k = n := by omega
        subst this
        by_cases h2 : f k = 0
        · exact h2
        · rw [if_neg h2] at h'; exact h'
    · rw [if_neg h0] at h'; exact absurd h' h0

def listErr (P : PcD) (l : List Int) (above : Int) : Int := if l.length = P.n then (if normalB P.orders l above then 0 else 2) else 3
def genErr (P : PcD) (i : Nat) : Int :=
  if listErr P (P.pow i) ((i : Int) + 1) = 0 then (if (P.conj.getD i []).length = i then firstNZ (fun k => listErr P (P.cj i k) ((k : Int) + 1)) i else 3) else listErr P (P.pow i) ((i : Int) + 1)
def ordErr (P : PcD) (i : Nat) : Int := if 2 ≤ P.ord i ∧ P.ord i ≤ 1000 then 0 else 2
def prod (P : PcD) (k : Nat) : Int := foldTo (fun k a => a * P.ord k) k 1
def overErr (P : PcD) (k : Nat) : Int := if prod P (k + 1) ≤ 50000 then 0 else 5

def lenErr (P : PcD) : Int := if P.n ≤ 12 then (if P.powers.length = P.n ∧ P.conj.length = P.n then 0 else 3) else 4

def orElse (a : Int × Int) (b : Int × Int) : Int × Int := if a.1 = 0 then b else a
def checkD (P : PcD) : Int × Int := orElse (lenErr P, 0) (orElse (firstP (ordErr P) P.n) (orElse (firstNZ (overErr P) P.n, 0) (firstP (genErr P) P.n)))

theorem firstP_ok {f : Nat → Int} : ∀ {n : Nat}, (firstP f n).1 = 0 → firstP f n = (0, 0) := by
  intro n
  induction n with
  | zero => intro _; rfl
  | succ n ih =>
    intro h
    have h' : (if (firstP f n).1 = 0 then (if f n = 0 then (0, 0) else (f n, (n : Int) + 1)) else firstP f n).1 = 0 := h
    show (if (firstP f n).1 = 0 then (if f n = 0 then (0, 0) else (f n, (n : Int) + 1)) else firstP f n) = (0, 0)
    by_cases h0 : (firstP f n).1 = 0
    · rw [if_pos h0] at h' ⊢
      by_cases h2 : f n = 0
      · rw [if_pos h2]
      · rw [if_neg h2] at h'; exact absurd h' h2
    · rw [if_neg h0] at h'; exact absurd h' h0

theorem checkD_ok {P : PcD} (h : (checkD P).1 = 0) : lenErr P = 0 ∧ firstP (ordErr P) P.n = (0, 0) ∧ firstNZ (overErr P) P.n = 0 ∧ firstP (genErr P) P.n = (0, 0) := by
  unfold checkD orElse at h
  by_cases h1 : lenErr P = 0
  · simp only [h1, if_pos] at h
    by_cases h2 : (firstP (ordErr P) P.n).1 = 0
    · simp only [h2, if_pos] at h
      by_cases h3 : firstNZ (overErr P) P.n = 0
      · simp only [h3, if_pos] at h
        exact ⟨h1, firstP_ok h2, h3, firstP_ok h⟩
      · simp only [h3, if_false] at h
    · simp only [h2, if_false] at h
  · simp only [h1, if_false] at h

theorem listErr_norm {P : PcD} {l : List Int} {a : Nat} (h : listErr P l ((a : Int) + 1) = 0) : Norm P l (a + 1) := by
  unfold listErr at h
  by_cases hl : l.length = P.n
  · rw [if_pos hl] at h
    by_cases hn : normalB P.orders l ((a : Int) + 1) = true
    · refine ⟨hl, fun k hk => ?_⟩
      have := (normAt_iff _ _ _ _).1 ((normalB_iff _ _ _).1 hn k (by omega))
      refine ⟨this.1, this.2.1, fun hka => ?_⟩
      have h3 := this.2.2 (by omega)
      omega
    · rw [if_neg hn] at h; cases h
  · rw [if_neg hl] at h; cases h

theorem valid_of_check {P : PcD} (h : (checkD P).1 = 0) : Valid P := by
  obtain ⟨h1, h2, h3, h4⟩ := checkD_ok h
  have hlen : P.n ≤ 12 ∧ P.powers.length = P.n ∧ P.conj.length = P.n := by
    unfold lenErr at h1
    by_cases a : P.n ≤ 12
    · rw [if_pos a] at h1
      by_cases b : P.powers.length = P.n ∧ P.conj.length = P.n
      · exact ⟨a, b⟩
      · rw [if_neg b] at h1; cases h1
    · rw [if_neg a] at h1; cases h1
  have hg : ∀ i, i < P.n → listErr P (P.pow i) ((i : Int) + 1) = 0 ∧ (P.conj.getD i []).length = i ∧ firstNZ (fun k => listErr P (P.cj i k) ((k : Int) + 1)) i = 0 := by
    intro i hi
    have := firstP_zero (f := genErr P) (by rw [h4]) i hi
    unfold genErr at this
    by_cases a : listErr P (P.pow i) ((i : Int) + 1) = 0
    · rw [if_pos a] at this
      by_cases b : (P.conj.getD i []).length = i
      · rw [if_pos b] at this; exact ⟨a, b, this⟩
      · rw [if_neg b] at this; cases this
    · rw [if_neg a] at this; exact absurd this a
  refine ⟨hlen.1, fun k hk => ?_, hlen.2.1, hlen.2.2, fun i hi => listErr_norm (hg i hi).1, fun j hj => (hg j hj).2.1, fun j hj i hi => ?_⟩
  · have := firstP_zero (f := ordErr P) (by rw [h2]) k hk
    unfold ordErr at this
    by_cases a : 2 ≤ P.ord k ∧ P.ord k ≤ 1000
    · exact a
    · rw [if_neg a] at this; cases this
  · exact listErr_norm (firstNZ_zero (hg j hj).2.2 i hi)
end Go.Proofs.Pc
