/- The plain functions of collection: what program and reference both compute. No program in sight. -/
namespace Go.Proofs.Pc

structure PcD where
  orders : List Int
  powers : List (List Int)
  conj : List (List (List Int))

def PcD.n (P : PcD) : Nat := P.orders.length
def PcD.ord (P : PcD) (i : Nat) : Int := P.orders.getD i 0
def PcD.pow (P : PcD) (i : Nat) : List Int := P.powers.getD i []
def PcD.cj (P : PcD) (j i : Nat) : List Int := (P.conj.getD j []).getD i []

def iter {α : Type} (f : α → α) : Nat → α → α
  | 0, x => x
  | n + 1, x => f (iter f n x)

def foldTo {α : Type} (f : Nat → α → α) : Nat → α → α
  | 0, x => x
  | k + 1, x => f k (foldTo f k x)

abbrev V := List Int

def byF (T : Nat → V → V) (n : Nat) (y x : V) : V := foldTo (fun k x => iter (T k) (y.getD k 0).toNat x) n x

def bump (x : V) (i : Nat) : V := ((List.range x.length).map fun k => if k ≤ i then x.getD k 0 else 0).set i (x.getD i 0 + 1)

def timesF (P : PcD) : Nat → Nat → V → V
  | 0, _, x => x
  | d + 1, i, x =>
    foldTo (fun t x' => iter (byF (timesF P d) P.n (P.cj (i + 1 + t) i)) (x.getD (i + 1 + t) 0).toNat x') (P.n - (i + 1))
      (if x.getD i 0 + 1 = P.ord i then byF (timesF P d) P.n (P.pow i) ((bump x i).set i 0) else bump x i)

/-- normal above 'a' -/
def Norm (P : PcD) (y : V) (a : Nat) : Prop := y.length = P.n ∧ ∀ k, k < P.n → 0 ≤ y.getD k 0 ∧ y.getD k 0 < P.ord k ∧ (k < a → y.getD k 0 = 0)

structure Valid (P : PcD) : Prop where
  n12 : P.n ≤ 12
  ord2 : ∀ k, k < P.n → 2 ≤ P.ord k ∧ P.ord k ≤ 1000
  npow : P.powers.length = P.n
  ncj : P.conj.length = P.n
  pow : ∀ i, i < P.n → Norm P (P.pow i) (i + 1)
  cjl : ∀ j, j < P.n → (P.conj.getD j []).length = j
  cj : ∀ j, j < P.n → ∀ i, i < j → Norm P (P.cj j i) (i + 1)

theorem iter_inv {α : Type} {f : α → α} {p : α → Prop} (hf : ∀ x, p x → p (f x)) : ∀ (n : Nat) (x : α), p x → p (iter f n x)
  | 0, _, h => h
  | n + 1, x, h => hf _ (iter_inv hf n x h)

theorem foldTo_inv {α : Type} {f : Nat → α → α} {p : α → Prop} : ∀ (n : Nat) (_ : ∀ k x, k < n → p x → p (f k x)) (x : α), p x → p (foldTo f n x)
  | 0, _, _, h => h
  | n + 1, hf, x, h => hf n _ (Nat.lt_succ_self n) (foldTo_inv n (fun k x hk => hf k x (Nat.lt_succ_of_lt hk)) x h)

theorem byF_inv {T : Nat → V → V} {p : V → Prop} {n : Nat} {y : V} (hT : ∀ k x, k < n → 0 < y.getD k 0 → p x → p (T k x)) (x : V) (h : p x) : p (byF T n y x) := by
  refine foldTo_inv n (fun k x hk hx => ?_) x h
  rcases Int.lt_or_le 0 (y.getD k 0) with h0 | h0
  · exact iter_inv (fun x hx => hT k x hk h0 hx) _ _ hx
  · have : (y.getD k 0).toNat = 0 := by omega
    rw [this]; exact hx

def NV (P : PcD) (x : V) : Prop := x.length = P.n ∧ ∀ k, k < P.n → 0 ≤ x.getD k 0 ∧ x.getD k 0 < P.ord k

theorem getD_set (x : V) (i k : Nat) (v : Int) : (x.set i v).getD k 0 = if i = k ∧ i < x.length then v else x.getD k 0 := by
  simp only [List.getD_eq_getElem?_getD, List.getElem?_set]
  by_cases h : i = k
  · subst h
    by_cases h2 : i < x.length
    · simp [h2]
    · simp [h2]
  · simp [h]

theorem length_bump (x : V) (i : Nat) : (bump x i).length = x.length := by simp [bump]
theorem getD_bump (x : V) (i k : Nat) (hi : i < x.length) : (bump x i).getD k 0 = if k = i then x.getD i 0 + 1 else if k < i then x.getD k 0 else 0 := by
  unfold bump
  rw [getD_set]
  by_cases h : i = k
  · subst h; simp [hi]
  · simp only [h, false_and, if_false, Ne.symm h]
    simp only [List.getD_eq_getElem?_getD, List.getElem?_map]
    rcases Nat.lt_or_ge k x.length with hk | hk
    · simp [List.getElem?_range hk]
      by_cases h2 : k ≤ i
      · have : k < i := by omega
        simp [h2, this]
      · have : ¬ k < i := by omega
        simp [h2, this]
    · have : ¬ k < i := by omega
      simp [this]
      rw [List.getElem?_eq_none (by simpa using hk)]
      rfl

theorem timesF_NV {P : PcD} (hv : Valid P) : ∀ (d i : Nat) (x : V), i < P.n → NV P x → NV P (timesF P d i x) := by
  intro d
  induction d with
  | zero => intro i x _ h; exact h
  | succ d ih =>
    intro i x hi h
    unfold timesF
    have hby : ∀ (y x : V), NV P x → NV P (byF (timesF P d) P.n y x) := fun y x hx => byF_inv (fun k x hk _ hx => ih k x hk hx) x hx
    have hxi := h.2 i hi
    have hlen := h.1
    refine foldTo_inv _ (fun t x' _ hx' => iter_inv (fun z hz => hby _ z hz) _ _ hx') _ ?_
    split
    · refine hby _ _ ⟨by simp [length_bump, h.1], fun k hk => ?_⟩
      have ho := hv.ord2 k hk
      have hxk := h.2 k hk
      rw [getD_set, getD_bump x i k (by omega)]
      by_cases hik : i = k
      · subst hik; simp [length_bump, hlen, hi]; omega
      · simp only [hik, false_and, if_false, Ne.symm hik]
        split <;> omega
    · rename_i hne
      refine ⟨by simp [length_bump, h.1], fun k hk => ?_⟩
      have ho := hv.ord2 k hk
      have hxk := h.2 k hk
      rw [getD_bump x i k (by omega)]
      split
      · rename_i e; subst e; omega
      · split <;> omega

theorem byF_NV {P : PcD} (hv : Valid P) (d : Nat) (y x : V) (h : NV P x) : NV P (byF (timesF P d) P.n y x) :=
  byF_inv (fun k x hk _ hx => timesF_NV hv d k x hk hx) x h

end Go.Proofs.Pc
