/- Plain: the overlaps, in the order in which both texts compare them. -/
import Derived.Test.YtnhoiompdjabbaaModel
namespace Go.Proofs.Pc

def uP (P : PcD) (i : Nat) (x : Int) : V := (List.range P.n).map fun k => if k = i then x else 0
def mulP (P : PcD) (x y : V) : V := byF (timesF P P.n) P.n y x

theorem getD_uP (P : PcD) (i k : Nat) (x : Int) : (uP P i x).getD k 0 = if k = i ∧ k < P.n then x else 0 := by
  unfold uP
  rcases Nat.lt_or_ge k P.n with hk | hk
  · simp [List.getD_eq_getElem?_getD, hk]
  · rw [List.getD_eq_getElem?_getD, List.getElem?_eq_none (by simpa using hk), if_neg (by omega)]
    rfl
theorem uP_NV {P : PcD} (hv : Valid P) {i : Nat} {x : Int} (hx : 0 ≤ x) (hx2 : i < P.n → x < P.ord i) : NV P (uP P i x) := by
  refine ⟨by simp [uP], fun k hk => ?_⟩
  rw [getD_uP]
  have := hv.ord2 k hk
  by_cases h : k = i ∧ k < P.n
  · rw [if_pos h]
    obtain ⟨rfl, _⟩ := h
    exact ⟨hx, hx2 hk⟩
  · rw [if_neg h]; omega
theorem mulP_NV {P : PcD} (hv : Valid P) {x y : V} (hx : NV P x) : NV P (mulP P x y) := byF_NV hv _ _ _ hx
theorem norm_NV {P : PcD} {y : V} {a : Nat} (h : Norm P y a) : NV P y := ⟨h.1, fun k hk => ⟨(h.2 k hk).1, (h.2 k hk).2.1⟩⟩

def pK (P : PcD) (i j k : Nat) : V × V := (mulP P (mulP P (uP P k 1) (uP P j 1)) (uP P i 1), mulP P (uP P k 1) (mulP P (uP P j 1) (uP P i 1)))
def pJ1 (P : PcD) (i j : Nat) : V × V := (mulP P (P.pow j) (uP P i 1), mulP P (uP P j (P.ord j - 1)) (mulP P (uP P j 1) (uP P i 1)))
def pJ2 (P : PcD) (i j : Nat) : V × V := (iter (timesF P P.n i) (P.ord i).toNat (uP P j 1), mulP P (uP P j 1) (P.pow i))
def pI (P : PcD) (i : Nat) : V × V := (mulP P (P.pow i) (uP P i 1), mulP P (uP P i 1) (P.pow i))

/-- the overlaps of i, j, and k below m -/
def ovK (P : PcD) (i j m : Nat) : List (V × V) := foldTo (fun t l => l ++ [pK P i j (j + 1 + t)]) (m - (j + 1)) []
def ovJ (P : PcD) (i m : Nat) : List (V × V) := foldTo (fun t l => l ++ ([pJ1 P i (i + 1 + t), pJ2 P i (i + 1 + t)] ++ ovK P i (i + 1 + t) P.n)) (m - (i + 1)) []
def ovI (P : PcD) (m : Nat) : List (V × V) := foldTo (fun i l => l ++ ([pI P i] ++ ovJ P i P.n)) m []
def ovl (P : PcD) : List (V × V) := ovI P P.n

theorem ovK_succ (P : PcD) {i j k : Nat} (h : j + 1 ≤ k) : ovK P i j (k + 1) = ovK P i j k ++ [pK P i j k] := by
  unfold ovK
  rw [show k + 1 - (j + 1) = (k - (j + 1)) + 1 by omega]
  show foldTo _ (k - (j + 1)) [] ++ [pK P i j (j + 1 + (k - (j + 1)))] = _
  rw [show j + 1 + (k - (j + 1)) = k by omega]
theorem ovJ_succ (P : PcD) {i j : Nat} (h : i + 1 ≤ j) : ovJ P i (j + 1) = ovJ P i j ++ ([pJ1 P i j, pJ2 P i j] ++ ovK P i j P.n) := by
  unfold ovJ
  rw [show j + 1 - (i + 1) = (j - (i + 1)) + 1 by omega]
  show foldTo _ (j - (i + 1)) [] ++ ([pJ1 P i (i + 1 + (j - (i + 1))), pJ2 P i (i + 1 + (j - (i + 1)))] ++ ovK P i (i + 1 + (j - (i + 1))) P.n) = _
  rw [show i + 1 + (j - (i + 1)) = j by omega]
theorem ovI_succ (P : PcD) (i : Nat) : ovI P (i + 1) = ovI P i ++ ([pI P i] ++ ovJ P i P.n) := rfl

/-- pre is where the list begins -/
def Pre (pre l : List (V × V)) : Prop := ∃ s, l = pre ++ s
theorem Pre.refl (l : List (V × V)) : Pre l l := ⟨[], by simp⟩
theorem Pre.trans {a b c : List (V × V)} (h : Pre a b) (k : Pre b c) : Pre a c := by
  obtain ⟨s, rfl⟩ := h; obtain ⟨t, rfl⟩ := k; exact ⟨s ++ t, by simp⟩
theorem Pre.app {a b : List (V × V)} (c : List (V × V)) (h : Pre a b) : Pre (c ++ a) (c ++ b) := by
  obtain ⟨s, rfl⟩ := h; exact ⟨s, by simp⟩
theorem pre_ovK (P : PcD) {i j : Nat} : ∀ {k m : Nat}, k ≤ m → Pre (ovK P i j k) (ovK P i j m) := by
  intro k m h
  induction m with
  | zero => have : k = 0 := by omega
            subst this; exact Pre.refl _
  | succ m ih =>
    rcases Nat.lt_or_ge k (m + 1) with h1 | h1
    · rcases Nat.lt_or_ge m (j + 1) with h2 | h2
      · have e : ∀ q, q ≤ j + 1 → ovK P i j q = [] := fun q hq => by unfold ovK; rw [show q - (j + 1) = 0 by omega]; rfl
        rw [e k (by omega), e (m + 1) (by omega)]; exact Pre.refl _
      · rw [ovK_succ P h2]; exact (ih (by omega)).trans ⟨_, rfl⟩
    · have : k = m + 1 := by omega
      subst this; exact Pre.refl _
theorem pre_ovJ (P : PcD) {i : Nat} : ∀ {k m : Nat}, k ≤ m → Pre (ovJ P i k) (ovJ P i m) := by
  intro k m h
  induction m with
  | zero => have : k = 0 := by omega
            subst this; exact Pre.refl _
  | succ m ih =>
    rcases Nat.lt_or_ge k (m + 1) with h1 | h1
    · rcases Nat.lt_or_ge m (i + 1) with h2 | h2
      · have e : ∀ q, q ≤ i + 1 → ovJ P i q = [] := fun q hq => by unfold ovJ; rw [show q - (i + 1) = 0 by omega]; rfl
        rw [e k (by omega), e (m + 1) (by omega)]; exact Pre.refl _
      · rw [ovJ_succ P h2]; exact (ih (by omega)).trans ⟨_, rfl⟩
    · have : k = m + 1 := by omega
      subst this; exact Pre.refl _
theorem pre_ovI (P : PcD) : ∀ {k m : Nat}, k ≤ m → Pre (ovI P k) (ovI P m) := by
  intro k m h
  induction m with
  | zero => have : k = 0 := by omega
            subst this; exact Pre.refl _
  | succ m ih =>
    rcases Nat.lt_or_ge k (m + 1) with h1 | h1
    · rw [ovI_succ]; exact (ih (by omega)).trans ⟨_, rfl⟩
    · have : k = m + 1 := by omega
      subst this; exact Pre.refl _

/-- the places within the list -/
theorem pre_I (P : PcD) {i : Nat} (hi : i < P.n) : Pre (ovI P i ++ [pI P i]) (ovl P) := by
  refine Pre.trans (b := ovI P (i + 1)) ?_ (pre_ovI P (by omega))
  rw [ovI_succ]
  exact Pre.app _ ⟨_, rfl⟩
theorem pre_J (P : PcD) {i j : Nat} (hi : i < P.n) (hj : j ≤ P.n) : Pre (ovI P i ++ ([pI P i] ++ ovJ P i j)) (ovl P) := by
  refine Pre.trans (b := ovI P (i + 1)) ?_ (pre_ovI P (by omega))
  rw [ovI_succ]
  exact Pre.app _ (Pre.app _ (pre_ovJ P hj))
theorem pre_J' (P : PcD) {i j : Nat} {x : List (V × V)} (hi : i < P.n) (hij : i + 1 ≤ j) (hj : j < P.n) (hx : Pre x ([pJ1 P i j, pJ2 P i j] ++ ovK P i j P.n)) : Pre (ovI P i ++ ([pI P i] ++ (ovJ P i j ++ x))) (ovl P) := by
  refine Pre.trans ?_ (pre_J P hi (show j + 1 ≤ P.n by omega))
  rw [ovJ_succ P hij]
  exact Pre.app _ (Pre.app _ (Pre.app _ hx))
def eq12 (x y : V) : Bool := (List.range 12).all fun k => x.getD k 0 == y.getD k 0
def consB (P : PcD) : Bool := (ovl P).all fun p => eq12 p.1 p.2
end Go.Proofs.Pc
