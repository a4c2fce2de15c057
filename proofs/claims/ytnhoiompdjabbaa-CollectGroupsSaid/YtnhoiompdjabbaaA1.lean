/- Words for memory: a slice that reads as a list of values; nothing of the program; The plain functions of collection: what program and reference both compute. No program in sight; Plain: what Check computes; The contracts of collect.normal and cayleyref24.normal; The contracts of cayleyref18.Same and of the law's equal; The contracts of collect.Check and its closures. -/
import Derived.WalkKit
import Derived.WalkSpells
import Derived.WalkLawsBesides
import Derived.Lib.Hide
import Derived.Deep.QuietTactic
import Derived.BigQuiet
import Derived.KernelRfl
import Derived.Test.YtnhoiompdjabbaaProg
namespace Go.Proofs
open Go.RowKit

/-- The cells from b, off on hold vs. -/
def Row (w : World) (b off : Nat) (vs : List Value) : Prop := ∀ j v, vs[j]? = some v → w.cell? ⟨b, off + j, none⟩ = some v

/-- The slice value v reads as the list vs (elements of one cell). -/
def Sl (w : World) (v : Value) (vs : List Value) : Prop :=
  ∃ A n cap, v = .slice A n cap ∧ n = vs.length ∧ n ≤ cap ∧ cap ≤ maxLen ∧ (0 < n → ∃ b off, A = some ⟨b, off, none⟩ ∧ Row w b off vs)

def ints (xs : List Int) : List Value := xs.map (Value.int .i64)
def Fits (xs : List Int) : Prop := ∀ x ∈ xs, -9223372036854775808 ≤ x ∧ x ≤ 9223372036854775807
def IntsAt (w : World) (v : Value) (xs : List Int) : Prop := Sl w v (ints xs) ∧ Fits xs

section
variable {w w' : World} {v : Value} {vs : List Value}

theorem Row.lt {b off : Nat} (h : Row w b off vs) (hn : 0 < vs.length) : b < w.heap.size := by
  have := h 0 _ (List.getElem?_eq_getElem hn)
  exact World.block_lt_of_cell? w _ this

theorem Row.keep {b off : Nat} (h : Row w b off vs) (hk : ∀ p : Addr, p.block < w.heap.size → w'.cell? p = w.cell? p) : Row w' b off vs := by
  intro j u hu
  have := h j u hu
  rw [hk _ (World.block_lt_of_cell? w _ this)]
  exact this

theorem Sl.keep (h : Sl w v vs) (hk : ∀ p : Addr, p.block < w.heap.size → w'.cell? p = w.cell? p) : Sl w' v vs := by
  obtain ⟨A, n, cap, h1, h2, h3, h4, h5⟩ := h
  exact ⟨A, n, cap, h1, h2, h3, h4, fun hn => let ⟨b, off, ha, hr⟩ := h5 hn; ⟨b, off, ha, hr.keep hk⟩⟩

theorem Sl.below (h : Sl w v vs) (hb : Below w.heap.size w w') : Sl w' v vs := h.keep fun _ hp => hb.cell hp
theorem IntsAt.below {xs : List Int} (h : IntsAt w v xs) (hb : Below w.heap.size w w') : IntsAt w' v xs := ⟨h.1.below hb, h.2⟩
theorem Sl.drewN (h : Sl w v vs) (k : Nat) : Sl (w.drewN k) v vs := h
theorem IntsAt.drewN {xs : List Int} (h : IntsAt w v xs) (k : Nat) : IntsAt (w.drewN k) v xs := h

theorem IntsAt.open_ {xs : List Int} (h : IntsAt w v xs) : ∃ A cap, v = .slice A xs.length cap ∧ xs.length ≤ cap ∧ cap ≤ 9223372036854775807 ∧
    (0 < xs.length → ∃ b off, A = some ⟨b, off, none⟩ ∧ ∀ k, k < xs.length → w.cell? ⟨b, off + k, none⟩ = some (.int .i64 (xs.getD k 0))) := by
  obtain ⟨⟨A, n, cap, h1, h2, h3, h4, h5⟩, hf⟩ := h
  have hl : n = xs.length := by simpa [ints] using h2
  subst hl
  refine ⟨A, cap, h1, h3, by simpa [maxLen] using h4, fun hn => ?_⟩
  obtain ⟨b, off, ha, hr⟩ := h5 hn
  refine ⟨b, off, ha, fun k hk => hr k _ ?_⟩
  simp [ints, List.getElem?_map, List.getD_eq_getElem?_getD, List.getElem?_eq_getElem hk]

theorem Fits.at_ {xs : List Int} (h : Fits xs) (k : Nat) : -9223372036854775808 ≤ xs.getD k 0 ∧ xs.getD k 0 ≤ 9223372036854775807 := by
  rw [List.getD_eq_getElem?_getD]
  rcases Nat.lt_or_ge k xs.length with hk | hk
  · rw [List.getElem?_eq_getElem hk]; exact h _ (List.getElem_mem hk)
  · rw [List.getElem?_eq_none hk]; simp
end

/-- A slice whose elements (one cell each) read, by R, as the list xs. -/
def LAt {α : Type} (R : World → Value → α → Prop) (d : α) (w : World) (v : Value) (xs : List α) : Prop :=
  ∃ vs, Sl w v vs ∧ vs.length = xs.length ∧ ∀ i, i < xs.length → ∃ u, vs[i]? = some u ∧ R w u (xs.getD i d)
def Kept {α : Type} (R : World → Value → α → Prop) : Prop := ∀ w w' v x, (∀ k, k < w.heap.size → w'.heap[k]? = w.heap[k]?) → R w v x → R w' v x

theorem cell_blocks {w w' : World} (h : ∀ k, k < w.heap.size → w'.heap[k]? = w.heap[k]?) (p : Addr) (hp : p.block < w.heap.size) : w'.cell? p = w.cell? p := World.cell?_of_block (h p.block hp)
theorem kept_ints : Kept IntsAt := fun _ _ _ _ hk h => ⟨h.1.keep (cell_blocks hk), h.2⟩
theorem kept_L {α : Type} {R : World → Value → α → Prop} {d : α} (hR : Kept R) : Kept (LAt R d) := fun _w _w' _v _xs hk ⟨vs, h1, h2, h3⟩ =>
  ⟨vs, h1.keep (cell_blocks hk), h2, fun i hi => let ⟨u, hu, hr⟩ := h3 i hi; ⟨u, hu, hR _ _ _ _ hk hr⟩⟩
abbrev Tab := LAt IntsAt []
abbrev Tab3 := LAt Tab []
theorem kept_tab : Kept Tab := kept_L kept_ints
theorem kept_tab3 : Kept Tab3 := kept_L kept_tab
theorem Kept.below {α : Type} {R : World → Value → α → Prop} (hR : Kept R) {w w' : World} {v : Value} {x : α} (h : R w v x) (hb : Below w.heap.size w w') : R w' v x := hR _ _ _ _ hb.block h

/-- The slice opened: an address where there is an element. -/
theorem LAt.open_ {α : Type} {R : World → Value → α → Prop} {d : α} {w : World} {v : Value} {xs : List α} (h : LAt R d w v xs) : ∃ A cap, v = .slice A xs.length cap ∧ xs.length ≤ cap ∧ cap ≤ 9223372036854775807 ∧
    (0 < xs.length → ∃ b off, A = some ⟨b, off, none⟩ ∧ ∀ k, k < xs.length → ∃ u, w.cell? ⟨b, off + k, none⟩ = some u ∧ R w u (xs.getD k d)) := by
  obtain ⟨vs, ⟨A, n, cap, h1, h2, h3, h4, h5⟩, hl, he⟩ := h
  have hn : n = xs.length := h2.trans hl
  subst hn
  refine ⟨A, cap, h1, h3, by simpa [maxLen] using h4, fun hn => ?_⟩
  obtain ⟨b, off, ha, hr⟩ := h5 hn
  refine ⟨b, off, ha, fun k hk => ?_⟩
  obtain ⟨u, hu, hru⟩ := he k hk
  exact ⟨u, hr k u hu, hru⟩

theorem quiet_add_left {P : Program} {f : FuncId} {args : Array Value} {w : World} {a n : Nat} {v : Value}
    (h : Calls P f args (w.drewN (a + n)) fun e w' => e = .returned v ∧ w.drewN (a + n) = w') :
    Calls P f args (w.drewN (a + n)) fun e w'' => e = .returned v ∧ ∃ m, w'' = w.drewN (a + m) :=
  h.mono fun _ _ ⟨he, hm⟩ => ⟨he, n, hm.symm⟩
theorem quiet_left {P : Program} {f : FuncId} {args : Array Value} {w : World} {n : Nat} {v : Value}
    (h : Calls P f args (w.drewN n) fun e w' => e = .returned v ∧ w.drewN n = w') : Calls P f args (w.drewN n) fun e w'' => e = .returned v ∧ ∃ m, w'' = w.drewN m :=
  h.mono fun _ _ ⟨he, hm⟩ => ⟨he, n, hm.symm⟩

theorem ret_bool {a b : Bool} (h : a = b) : Ending.returned (.bool a) = Ending.returned (.bool b) := by rw [h]
theorem ret_int {k : IntKind} {a b : Int} (h : a = b) : Ending.returned (.int k a) = Ending.returned (.int k b) := by rw [h]
theorem ret_pair {k l : IntKind} {a b c d : Int} (h : a = c) (h' : b = d) : Ending.returned (.tuple #[.int k a, .int l b]) = Ending.returned (.tuple #[.int k c, .int l d]) := by rw [h, h']
end Go.Proofs
namespace Go.Proofs.Pc

structure PcD where
  orders : List Int
  powers : List (List Int)
  conj : List (List (List Int))

def PcD.n (P : PcD) : Nat := P.orders.length
def PcD.ord (P : PcD) (i : Nat) : Int := P.orders.getD i 0
def PcD.pow (P : PcD) (i : Nat) : List Int := P.powers.getD i []
def PcD.cj (P : PcD) (j i : Nat) : List Int := (P.conj.getD j []).getD i []

def iter {α : Type} (f : α → α) : Nat → α → α
  | 0, x => x
  | n + 1, x => f (iter f n x)

def foldTo {α : Type} (f : Nat → α → α) : Nat → α → α
  | 0, x => x
  | k + 1, x => f k (foldTo f k x)

abbrev V := List Int

def byF (T : Nat → V → V) (n : Nat) (y x : V) : V := foldTo (fun k x => iter (T k) (y.getD k 0).toNat x) n x

def bump (x : V) (i : Nat) : V := ((List.range x.length).map fun k => if k ≤ i then x.getD k 0 else 0).set i (x.getD i 0 + 1)

def timesF (P : PcD) : Nat → Nat → V → V
  | 0, _, x => x
  | d + 1, i, x =>
    foldTo (fun t x' => iter (byF (timesF P d) P.n (P.cj (i + 1 + t) i)) (x.getD (i + 1 + t) 0).toNat x') (P.n - (i + 1))
      (if x.getD i 0 + 1 = P.ord i then byF (timesF P d) P.n (P.pow i) ((bump x i).set i 0) else bump x i)

/-- normal above 'a' -/
def Norm (P : PcD) (y : V) (a : Nat) : Prop := y.length = P.n ∧ ∀ k, k < P.n → 0 ≤ y.getD k 0 ∧ y.getD k 0 < P.ord k ∧ (k < a → y.getD k 0 = 0)

structure Valid (P : PcD) : Prop where
  n12 : P.n ≤ 12
  ord2 : ∀ k, k < P.n → 2 ≤ P.ord k ∧ P.ord k ≤ 1000
  npow : P.powers.length = P.n
  ncj : P.conj.length = P.n
  pow : ∀ i, i < P.n → Norm P (P.pow i) (i + 1)
  cjl : ∀ j, j < P.n → (P.conj.getD j []).length = j
  cj : ∀ j, j < P.n → ∀ i, i < j → Norm P (P.cj j i) (i + 1)

theorem iter_inv {α : Type} {f : α → α} {p : α → Prop} (hf : ∀ x, p x → p (f x)) : ∀ (n : Nat) (x : α), p x → p (iter f n x)
  | 0, _, h => h
  | n + 1, x, h => hf _ (iter_inv hf n x h)

theorem foldTo_inv {α : Type} {f : Nat → α → α} {p : α → Prop} : ∀ (n : Nat) (_ : ∀ k x, k < n → p x → p (f k x)) (x : α), p x → p (foldTo f n x)
  | 0, _, _, h => h
  | n + 1, hf, x, h => hf n _ (Nat.lt_succ_self n) (foldTo_inv n (fun k x hk => hf k x (Nat.lt_succ_of_lt hk)) x h)

theorem byF_inv {T : Nat → V → V} {p : V → Prop} {n : Nat} {y : V} (hT : ∀ k x, k < n → 0 < y.getD k 0 → p x → p (T k x)) (x : V) (h : p x) : p (byF T n y x) := by
  refine foldTo_inv n (fun k x hk hx => ?_) x h
  rcases Int.lt_or_le 0 (y.getD k 0) with h0 | h0
  · exact iter_inv (fun x hx => hT k x hk h0 hx) _ _ hx
  · have : (y.getD k 0).toNat = 0 := by omega
    rw [this]; exact hx

def NV (P : PcD) (x : V) : Prop := x.length = P.n ∧ ∀ k, k < P.n → 0 ≤ x.getD k 0 ∧ x.getD k 0 < P.ord k

theorem getD_set (x : V) (i k : Nat) (v : Int) : (x.set i v).getD k 0 = if i = k ∧ i < x.length then v else x.getD k 0 := by
  simp only [List.getD_eq_getElem?_getD, List.getElem?_set]
  by_cases h : i = k
  · subst h
    by_cases h2 : i < x.length
    · simp [h2]
    · simp [h2]
  · simp [h]

theorem length_bump (x : V) (i : Nat) : (bump x i).length = x.length := by simp [bump]
theorem getD_bump (x : V) (i k : Nat) (hi : i < x.length) : (bump x i).getD k 0 = if k = i then x.getD i 0 + 1 else if k < i then x.getD k 0 else 0 := by
  unfold bump
  rw [getD_set]
  by_cases h : i = k
  · subst h; simp [hi]
  · simp only [h, false_and, if_false, Ne.symm h]
    simp only [List.getD_eq_getElem?_getD, List.getElem?_map]
    rcases Nat.lt_or_ge k x.length with hk | hk
    · simp [List.getElem?_range hk]
      by_cases h2 : k ≤ i
      · have : k < i := by omega
        simp [h2, this]
      · have : ¬ k < i := by omega
        simp [h2, this]
    · have : ¬ k < i := by omega
      simp [this]
      rw [List.getElem?_eq_none (by simpa using hk)]
      rfl

theorem timesF_NV {P : PcD} (hv : Valid P) : ∀ (d i : Nat) (x : V), i < P.n → NV P x → NV P (timesF P d i x) := by
  intro d
  induction d with
  | zero => intro i x _ h; exact h
  | succ d ih =>
    intro i x hi h
    unfold timesF
    have hby : ∀ (y x : V), NV P x → NV P (byF (timesF P d) P.n y x) := fun y x hx => byF_inv (fun k x hk _ hx => ih k x hk hx) x hx
    have hxi := h.2 i hi
    have hlen := h.1
    refine foldTo_inv _ (fun t x' _ hx' => iter_inv (fun z hz => hby _ z hz) _ _ hx') _ ?_
    split
    · refine hby _ _ ⟨by simp [length_bump, h.1], fun k hk => ?_⟩
      have ho := hv.ord2 k hk
      have hxk := h.2 k hk
      rw [getD_set, getD_bump x i k (by omega)]
      by_cases hik : i = k
      · subst hik; simp [length_bump, hlen, hi]; omega
      · simp only [hik, false_and, if_false, Ne.symm hik]
        split <;> omega
    · rename_i hne
      refine ⟨by simp [length_bump, h.1], fun k hk => ?_⟩
      have ho := hv.ord2 k hk
      have hxk := h.2 k hk
      rw [getD_bump x i k (by omega)]
      split
      · rename_i e; subst e; omega
      · split <;> omega

theorem byF_NV {P : PcD} (hv : Valid P) (d : Nat) (y x : V) (h : NV P x) : NV P (byF (timesF P d) P.n y x) :=
  byF_inv (fun k x hk _ hx => timesF_NV hv d k x hk hx) x h

end Go.Proofs.Pc
namespace Go.Proofs.Pc

def normAt (os xs : List Int) (above : Int) (k : Nat) : Bool := decide (0 ≤ xs.getD k 0) && (decide (xs.getD k 0 < os.getD k 0) && (!(decide ((k : Int) < above)) || decide (xs.getD k 0 ≤ 0)))
def normalB (os xs : List Int) (above : Int) : Bool := (List.range xs.length).all (normAt os xs above)

theorem normalB_false {os xs : List Int} {above : Int} {k : Nat} (hk : k < xs.length) (h : normAt os xs above k = false) : normalB os xs above = false := by
  unfold normalB
  rw [List.all_eq_false]
  exact ⟨k, by simpa using hk, by simp [h]⟩
theorem normalB_true {os xs : List Int} {above : Int} (h : ∀ k, k < xs.length → normAt os xs above k = true) : normalB os xs above = true := by
  unfold normalB
  rw [List.all_eq_true]
  intro k hk
  exact h k (by simpa using hk)
theorem normAt_iff (os xs : List Int) (above : Int) (k : Nat) : normAt os xs above k = true ↔ (0 ≤ xs.getD k 0 ∧ xs.getD k 0 < os.getD k 0 ∧ ((k : Int) < above → xs.getD k 0 ≤ 0)) := by
  unfold normAt
  simp only [Bool.and_eq_true, Bool.or_eq_true, Bool.not_eq_true', decide_eq_true_eq, decide_eq_false_iff_not]
  constructor
  · rintro ⟨h1, h2, h3⟩
    exact ⟨h1, h2, by omega⟩
  · rintro ⟨h1, h2, h3⟩
    exact ⟨h1, h2, by omega⟩
theorem normAt_iff' (os xs : List Int) (above : Int) (k : Nat) : normAt os xs above k = false ↔ ¬(0 ≤ xs.getD k 0 ∧ xs.getD k 0 < os.getD k 0 ∧ ((k : Int) < above → xs.getD k 0 ≤ 0)) := by
  rw [← normAt_iff]; simp
theorem normalB_iff (os xs : List Int) (above : Int) : normalB os xs above = true ↔ ∀ k, k < xs.length → normAt os xs above k = true := by
  unfold normalB
  rw [List.all_eq_true]
  exact ⟨fun h k hk => h k (by simpa using hk), fun h k hk => h k (by simpa using hk)⟩

/-- the first value that is not 0 -/
def firstNZ (f : Nat → Int) (n : Nat) : Int := foldTo (fun k a => if a = 0 then f k else a) n 0
theorem firstNZ_hit {f : Nat → Int} {k : Nat} (h0 : firstNZ f k = 0) (hk : f k ≠ 0) : ∀ (n : Nat), k < n → firstNZ f n = f k := by
  intro n hn
  induction n with
  | zero => omega
  | succ n ih =>
    show (if firstNZ f n = 0 then f n else firstNZ f n) = f k
    rcases Nat.lt_or_ge k n with h | h
    · rw [ih h, if_neg hk]
    · have : n = k := by omega
      subst this
      rw [h0, if_pos rfl]
theorem firstNZ_step {f : Nat → Int} {k : Nat} (h0 : firstNZ f k = 0) (hk : f k = 0) : firstNZ f (k + 1) = 0 := by
  show (if firstNZ f k = 0 then f k else firstNZ f k) = 0
  rw [h0, if_pos rfl, hk]
theorem firstNZ_zero {f : Nat → Int} : ∀ {n : Nat}, firstNZ f n = 0 → ∀ k, k < n → f k = 0 := by
  intro n
  induction n with
  | zero => intro _ k hk; omega
  | succ n ih =>
    intro h k hk
    have h' : (if firstNZ f n = 0 then f n else firstNZ f n) = 0 := h
    by_cases h0 : firstNZ f n = 0
    · rw [if_pos h0] at h'
      rcases Nat.lt_or_ge k n with h1 | h1
      · exact ih h0 k h1
      · have : k = n := by omega
        subst this; exact h'
    · rw [if_neg h0] at h'; exact absurd h' h0

/-- the first error and its place, counted from 1 -/
def firstP (f : Nat → Int) (n : Nat) : Int × Int := foldTo (fun k a => if a.1 = 0 then (if f k = 0 then (0, 0) else (f k, (k : Int) + 1)) else a) n (0, 0)
theorem firstP_hit {f : Nat → Int} {k : Nat} (h0 : firstP f k = (0, 0)) (hk : f k ≠ 0) : ∀ (n : Nat), k < n → firstP f n = (f k, (k : Int) + 1) := by
  intro n hn
  induction n with
  | zero => omega
  | succ n ih =>
    show (if (firstP f n).1 = 0 then (if f n = 0 then (0, 0) else (f n, (n : Int) + 1)) else firstP f n) = (f k, (k : Int) + 1)
    rcases Nat.lt_or_ge k n with h | h
    · rw [ih h, if_neg hk]
    · have : n = k := by omega
      subst this
      rw [h0, if_pos rfl, if_neg hk]
theorem firstP_step {f : Nat → Int} {k : Nat} (h0 : firstP f k = (0, 0)) (hk : f k = 0) : firstP f (k + 1) = (0, 0) := by
  show (if (firstP f k).1 = 0 then (if f k = 0 then (0, 0) else (f k, (k : Int) + 1)) else firstP f k) = (0, 0)
  rw [h0, if_pos rfl, if_pos hk]
theorem firstP_zero {f : Nat → Int} : ∀ {n : Nat}, (firstP f n).1 = 0 → ∀ k, k < n → f k = 0 := by
  intro n
  induction n with
  | zero => intro _ k hk; omega
  | succ n ih =>
    intro h k hk
    have h' : (if (firstP f n).1 = 0 then (if f n = 0 then (0, 0) else (f n, (n : Int) + 1)) else firstP f n).1 = 0 := h
    by_cases h0 : (firstP f n).1 = 0
    · rw [if_pos h0] at h'
      rcases Nat.lt_or_ge k n with h1 | h1
      · exact ih h0 k h1
      · have : k = n := by omega
        subst this
        by_cases h2 : f k = 0
        · exact h2
        · rw [if_neg h2] at h'; exact h'
    · rw [if_neg h0] at h'; exact absurd h' h0

def listErr (P : PcD) (l : List Int) (above : Int) : Int := if l.length = P.n then (if normalB P.orders l above then 0 else 2) else 3
def genErr (P : PcD) (i : Nat) : Int :=
  if listErr P (P.pow i) ((i : Int) + 1) = 0 then (if (P.conj.getD i []).length = i then firstNZ (fun k => listErr P (P.cj i k) ((k : Int) + 1)) i else 3) else listErr P (P.pow i) ((i : Int) + 1)
def ordErr (P : PcD) (i : Nat) : Int := if 2 ≤ P.ord i ∧ P.ord i ≤ 1000 then 0 else 2
def prod (P : PcD) (k : Nat) : Int := foldTo (fun k a => a * P.ord k) k 1
def overErr (P : PcD) (k : Nat) : Int := if prod P (k + 1) ≤ 50000 then 0 else 5

def lenErr (P : PcD) : Int := if P.n ≤ 12 then (if P.powers.length = P.n ∧ P.conj.length = P.n then 0 else 3) else 4

def orElse (a : Int × Int) (b : Int × Int) : Int × Int := if a.1 = 0 then b else a
def checkD (P : PcD) : Int × Int := orElse (lenErr P, 0) (orElse (firstP (ordErr P) P.n) (orElse (firstNZ (overErr P) P.n, 0) (firstP (genErr P) P.n)))

theorem firstP_ok {f : Nat → Int} : ∀ {n : Nat}, (firstP f n).1 = 0 → firstP f n = (0, 0) := by
  intro n
  induction n with
  | zero => intro _; rfl
  | succ n ih =>
    intro h
    have h' : (if (firstP f n).1 = 0 then (if f n = 0 then (0, 0) else (f n, (n : Int) + 1)) else firstP f n).1 = 0 := h
    show (if (firstP f n).1 = 0 then (if f n = 0 then (0, 0) else (f n, (n : Int) + 1)) else firstP f n) = (0, 0)
    by_cases h0 : (firstP f n).1 = 0
    · rw [if_pos h0] at h' ⊢
      by_cases h2 : f n = 0
      · rw [if_pos h2]
      · rw [if_neg h2] at h'; exact absurd h' h2
    · rw [if_neg h0] at h'; exact absurd h' h0

theorem checkD_ok {P : PcD} (h : (checkD P).1 = 0) : lenErr P = 0 ∧ firstP (ordErr P) P.n = (0, 0) ∧ firstNZ (overErr P) P.n = 0 ∧ firstP (genErr P) P.n = (0, 0) := by
  unfold checkD orElse at h
  by_cases h1 : lenErr P = 0
  · simp only [h1, if_pos] at h
    by_cases h2 : (firstP (ordErr P) P.n).1 = 0
    · simp only [h2, if_pos] at h
      by_cases h3 : firstNZ (overErr P) P.n = 0
      · simp only [h3, if_pos] at h
        exact ⟨h1, firstP_ok h2, h3, firstP_ok h⟩
      · simp only [h3, if_false] at h
    · simp only [h2, if_false] at h
  · simp only [h1, if_false] at h

theorem listErr_norm {P : PcD} {l : List Int} {a : Nat} (h : listErr P l ((a : Int) + 1) = 0) : Norm P l (a + 1) := by
  unfold listErr at h
  by_cases hl : l.length = P.n
  · rw [if_pos hl] at h
    by_cases hn : normalB P.orders l ((a : Int) + 1) = true
    · refine ⟨hl, fun k hk => ?_⟩
      have := (normAt_iff _ _ _ _).1 ((normalB_iff _ _ _).1 hn k (by omega))
      refine ⟨this.1, this.2.1, fun hka => ?_⟩
      have h3 := this.2.2 (by omega)
      omega
    · rw [if_neg hn] at h; cases h
  · rw [if_neg hl] at h; cases h

theorem valid_of_check {P : PcD} (h : (checkD P).1 = 0) : Valid P := by
  obtain ⟨h1, h2, h3, h4⟩ := checkD_ok h
  have hlen : P.n ≤ 12 ∧ P.powers.length = P.n ∧ P.conj.length = P.n := by
    unfold lenErr at h1
    by_cases a : P.n ≤ 12
    · rw [if_pos a] at h1
      by_cases b : P.powers.length = P.n ∧ P.conj.length = P.n
      · exact ⟨a, b⟩
      · rw [if_neg b] at h1; cases h1
    · rw [if_neg a] at h1; cases h1
  have hg : ∀ i, i < P.n → listErr P (P.pow i) ((i : Int) + 1) = 0 ∧ (P.conj.getD i []).length = i ∧ firstNZ (fun k => listErr P (P.cj i k) ((k : Int) + 1)) i = 0 := by
    intro i hi
    have := firstP_zero (f := genErr P) (by rw [h4]) i hi
    unfold genErr at this
    by_cases a : listErr P (P.pow i) ((i : Int) + 1) = 0
    · rw [if_pos a] at this
      by_cases b : (P.conj.getD i []).length = i
      · rw [if_pos b] at this; exact ⟨a, b, this⟩
      · rw [if_neg b] at this; cases this
    · rw [if_neg a] at this; exact absurd this a
  refine ⟨hlen.1, fun k hk => ?_, hlen.2.1, hlen.2.2, fun i hi => listErr_norm (hg i hi).1, fun j hj => (hg j hj).2.1, fun j hj i hi => ?_⟩
  · have := firstP_zero (f := ordErr P) (by rw [h2]) k hk
    unfold ordErr at this
    by_cases a : 2 ≤ P.ord k ∧ P.ord k ≤ 1000
    · exact a
    · rw [if_neg a] at this; cases this
  · exact listErr_norm (firstNZ_zero (hg j hj).2.2 i hi)
end Go.Proofs.Pc
namespace Go.Proofs
open Go.RowKit Go.Proofs.Pc

theorem below_drewN {B : Nat} {a w : World} (h : Below B a w) (n : Nat) : Below B a (w.drewN n) := ⟨h.os, h.tape, h.output, h.size, h.block⟩

set_option maxHeartbeats 400000 in
theorem normal_any (w : World) (vo vl : Value) (os xs : List Int) (above : Int) (ho : IntsAt w vo os) (hl : IntsAt w vl xs) (hlen : xs.length ≤ os.length) :
    Calls Try.prog 57 #[vo, vl, .int .i64 above] w fun e w' => e = .returned (.bool (normalB os xs above)) ∧ w = w' := by
  obtain ⟨A, ca, rfl, ha1, ha2, ha⟩ := ho.open_
  obtain ⟨B, cb, rfl, hb1, hb2, hb⟩ := hl.open_
  go_enter Try.func57, Try.ntmps57
  go_wp2_with fail
  go_loop [7, 8, 11] (fun s7 s8 i => ∃ k : Nat, k ≤ xs.length ∧ i = .int .i64 k ∧ ∀ j, j < k → normAt os xs above j = true) (fun _ _ i => xs.length - (intOf i).toNat)
  case atStart => exact ⟨0, Nat.zero_le _, rfl, fun j hj => absurd hj (by omega)⟩
  case round =>
    obtain ⟨k, hk, rfl, hall⟩ := hrel
    have HA := Lib.hid hall
    clear hall
    by_cases hlt : k < xs.length
    · obtain ⟨b, off, rfl, hcb⟩ := hb (by omega)
      obtain ⟨b', off', rfl, hca⟩ := ha (by omega)
      have c1 := hcb k hlt
      have c2 := hca k (by omega)
      have HT := Lib.hid (normAt_iff os xs above k)
      have HF := Lib.hid (normAt_iff' os xs above k)
      clear hcb hca
      generalize xs.getD k 0 = x at *
      generalize os.getD k 0 = y at *
      go_wp2_with fail
      all_goals first
        | (go_ret; exact ⟨ret_bool (normalB_false hlt (HF.out.2 (by omega))).symm, rfl⟩)
        | (go_round
           case rel => exact ⟨k + 1, by omega, by go_num, fun j hj => by
             rcases Nat.lt_or_ge j k with h | h
             · exact HA.out j h
             · obtain rfl : j = k := by omega
               exact HT.out.2 (by omega)⟩
           case measure => simp [intOf]; omega)
    · go_wp2_with fail
      go_ret
      have : k = xs.length := by omega
      subst this
      exact ⟨ret_bool (normalB_true HA.out).symm, rfl⟩
theorem normalRef_any (w : World) (vo vp vc vl : Value) (os xs : List Int) (above : Int) (ho : IntsAt w vo os) (hl : IntsAt w vl xs) (hlen : xs.length ≤ os.length) :
    Calls Try.prog 64 #[.agg #[vo, vp, vc], vl, .int .i64 above] w fun e w' => e = .returned (.bool (normalB os xs above)) ∧ Below w.heap.size w w' := by
  obtain ⟨A, ca, rfl, ha1, ha2, ha⟩ := ho.open_
  obtain ⟨B, cb, rfl, hb1, hb2, hb⟩ := hl.open_
  go_enter Try.func64, Try.ntmps64
  go_wp2_with fail
  go_loopw [7] (fun i wr => ∃ k : Nat, k ≤ xs.length ∧ i = .int .i64 k ∧ (∀ j, j < k → normAt os xs above j = true) ∧ wr.cell? ⟨w.heap.size, 0, none⟩ = some (.slice A os.length ca) ∧ Below w.heap.size w wr) (fun i _ => xs.length - (intOf i).toNat)
  case atStart => exact ⟨0, Nat.zero_le _, rfl, fun j hj => absurd hj (by omega), by simp, (Below.refl _ _).alloc (Nat.le_refl _) _⟩
  case round =>
    obtain ⟨k, hk, rfl, hall, hc0, hbel⟩ := hrel
    have HA := Lib.hid hall
    clear hall
    by_cases hlt : k < xs.length
    · obtain ⟨b, off, rfl, hcb⟩ := hb (by omega)
      obtain ⟨b', off', rfl, hca⟩ := ha (by omega)
      have c1 := hcb k hlt
      have c2 := hca k (by omega)
      have c1' := (hbel.cell (p := ⟨b, off + k, none⟩) (World.block_lt_of_cell? w _ c1)).trans c1
      have c2' := (hbel.cell (p := ⟨b', off' + k, none⟩) (World.block_lt_of_cell? w _ c2)).trans c2
      have HT := Lib.hid (normAt_iff os xs above k)
      have HF := Lib.hid (normAt_iff' os xs above k)
      have HB := Lib.hid hbel
      clear hcb hca c1 c2 hbel ha hb ho hl
      generalize xs.getD k 0 = x at *
      generalize os.getD k 0 = y at *
      have hk0 : (0 : Int) ≤ (k : Int) := Int.natCast_nonneg _
      have hk1 : (k : Int) < (xs.length : Int) := by omega
      have hk2 : (k : Int) < (os.length : Int) := by omega
      by_cases h1 : x < 0
      · have d1 : decide (x < 0) = true := by simpa using h1
        go_wp2_with fail
        go_quiet (fail)
        go_wp2_with fail
        go_ret
        exact ⟨ret_bool (normalB_false hlt (HF.out.2 (by omega))).symm, below_drewN HB.out _⟩
      have d1 : decide (x < 0) = false := by simpa using h1
      by_cases h2 : y ≤ x
      · have d2 : decide (y ≤ x) = true := by simpa using h2
        go_wp2_with fail
        go_quiet (fail)
        go_wp2_with fail
        go_ret
        exact ⟨ret_bool (normalB_false hlt (HF.out.2 (by omega))).symm, below_drewN HB.out _⟩
      have d2 : decide (y ≤ x) = false := by simpa using h2
      have rel : normAt os xs above k = true → ∀ j, j < k + 1 → normAt os xs above j = true := fun hx j hj => by
        rcases Nat.lt_or_ge j k with h | h
        · exact HA.out j h
        · obtain rfl : j = k := by omega
          exact hx
      have HR := Lib.hid rel
      clear rel
      by_cases h3 : (k : Int) < above
      · have d3 : decide ((k : Int) < above) = true := by simpa using h3
        by_cases h4 : x = 0
        · have d4 : (x != 0) = false := by simpa using h4
          have HX := Lib.hid h4
          clear h4
          go_wp2_with fail
          go_quiet (fail)
          go_wp2_with fail
          go_roundw
          case rel => exact ⟨k + 1, by omega, by go_num, HR.out (HT.out.2 (by have := HX.out; omega)), by assumption, below_drewN HB.out _⟩
          case measure => simp [intOf]; omega
        · have d4 : (x != 0) = true := by simpa using h4
          go_wp2_with fail
          go_quiet (fail)
          go_wp2_with fail
          go_ret
          exact ⟨ret_bool (normalB_false hlt (HF.out.2 (by omega))).symm, below_drewN HB.out _⟩
      · have d3 : decide ((k : Int) < above) = false := by simpa using h3
        go_wp2_with fail
        go_quiet (fail)
        go_wp2_with fail
        go_roundw
        case rel => exact ⟨k + 1, by omega, by go_num, HR.out (HT.out.2 (by omega)), by assumption, below_drewN HB.out _⟩
        case measure => simp [intOf]; omega
    · go_wp2_with fail
      go_ret
      have : k = xs.length := by omega
      subst this
      exact ⟨ret_bool (normalB_true HA.out).symm, hbel⟩
end Go.Proofs
namespace Go.Proofs
open Go.RowKit Go.Proofs.Pc

theorem getD_ext {α : Type} {d : α} {A B : List α} (hl : A.length = B.length) (h : ∀ k, k < A.length → A.getD k d = B.getD k d) : A = B := by
  apply List.ext_getElem hl
  intro i h1 h2
  have := h i h1
  simpa [List.getD_eq_getElem?_getD, h1, h2] using this
theorem getD_ne {α : Type} {d : α} {A B : List α} {k : Nat} (h : A.getD k d ≠ B.getD k d) : A ≠ B := fun e => h (by rw [e])
theorem ex_drewN {w : World} {n m : Nat} : ∃ q, (w.drewN n).drewN m = w.drewN q := ⟨_, World.drewN_drewN _ _ _⟩
theorem all_succ {p : Nat → Prop} {k : Nat} (h : ∀ j, j < k → p j) (hk : p k) : ∀ j, j < k + 1 → p j := fun j hj => by
  rcases Nat.lt_or_ge j k with h1 | h1
  · exact h j h1
  · obtain rfl : j = k := by omega
    exact hk

set_option maxRecDepth 100000 in
set_option maxHeartbeats 400000 in
theorem same18_any (w : World) (va vb : Value) (A B : List (List Int)) (ha : Tab w va A) (hb : Tab w vb B) :
    Calls Try.prog 55 #[va, vb] w fun e w' => e = .returned (.bool (decide (A = B))) ∧ ∃ q, w' = w.drewN q := by
  obtain ⟨A0, ca, rfl, ha1, ha2, ha3⟩ := ha.open_
  obtain ⟨B0, cb, rfl, hb1, hb2, hb3⟩ := hb.open_
  have HA := Lib.hid ha3
  have HB := Lib.hid hb3
  clear ha hb ha3 hb3
  by_cases hl : A.length = B.length
  · have d1 : ((A.length : Int) != (B.length : Int)) = false := by simp; omega
    have d2 : (A.length != B.length) = false := by simp; omega
    have HL := Lib.hid hl
    clear hl
    go_enter Try.func55, Try.ntmps55
    go_wp2_with fail
    go_loopw [5] (fun i wr => ∃ k : Nat, k ≤ A.length ∧ i = .int .i64 k ∧ (∀ j, j < k → A.getD j [] = B.getD j []) ∧ ∃ q, wr = w.drewN q) (fun i _ => A.length - (intOf i).toNat)
    case atStart => exact ⟨0, Nat.zero_le _, rfl, fun j hj => absurd hj (by omega), 0, rfl⟩
    case round =>
      obtain ⟨k, hk, rfl, hz, q, rfl⟩ := hrel
      have HZ := Lib.hid hz
      clear hz
      by_cases hlt : k < A.length
      · obtain ⟨b1, o1, rfl, hc1⟩ := HA.out (by omega)
        obtain ⟨b2, o2, rfl, hc2⟩ := HB.out (by rw [← HL.out]; omega)
        obtain ⟨u1, hu1, hr1⟩ := hc1 k hlt
        obtain ⟨u2, hu2, hr2⟩ := hc2 k (by rw [← HL.out]; omega)
        obtain ⟨A3, c3, rfl, hd1, hd2, hd⟩ := hr1.open_
        obtain ⟨A4, c4, rfl, he1, he2, he⟩ := hr2.open_
        have hk0 : (0 : Int) ≤ (k : Int) := Int.natCast_nonneg _
        have hkb : (k : Int) < (B.length : Int) := by rw [← HL.out]; omega
        have hka : (k : Int) < (A.length : Int) := by omega
        have HN := Lib.hid (fun h => getD_ne (A := A) (B := B) (d := []) (k := k) h)
        generalize hxe : A.getD k [] = x at *
        generalize hye : B.getD k [] = y at *
        have HXE := Lib.hid hxe
        have HYE := Lib.hid hye
        clear hxe hye
        have HD := Lib.hid hd
        have HE := Lib.hid he
        clear hc1 hc2 hr1 hr2 hd he
        by_cases hxy : x.length = y.length
        · have d3 : ((x.length : Int) != (y.length : Int)) = false := by simp; omega
          have d4 : (x.length != y.length) = false := by simp; omega
          have HX := Lib.hid hxy
          clear hxy
          go_wp2_with fail
          go_quiet (fail)
          go_wp2_with fail
          go_loopw [6] (fun i wr => ∃ j : Nat, j ≤ x.length ∧ i = .int .i64 j ∧ (∀ t, t < j → x.getD t 0 = y.getD t 0) ∧ ∃ q, wr = w.drewN q) (fun i _ => x.length - (intOf i).toNat)
          case atStart => exact ⟨0, Nat.zero_le _, rfl, fun j hj => absurd hj (by omega), (by first | exact ⟨_, rfl⟩ | exact ex_drewN)⟩
          case round =>
            obtain ⟨j, hj, rfl, hzj, qj, rfl⟩ := hrel
            have HZJ := Lib.hid hzj
            clear hzj
            by_cases hjl : j < x.length
            · obtain ⟨b3, o3, rfl, hx⟩ := HD.out (by omega)
              obtain ⟨b4, o4, rfl, hy⟩ := HE.out (by rw [← HX.out]; omega)
              have hx1 := hx j hjl
              have hy1 := hy j (by rw [← HX.out]; omega)
              have hj0 : (0 : Int) ≤ (j : Int) := Int.natCast_nonneg _
              have hjb : (j : Int) < (y.length : Int) := by rw [← HX.out]; omega
              have hja : (j : Int) < (x.length : Int) := by omega
              have HM := Lib.hid (fun h => getD_ne (A := x) (B := y) (d := 0) (k := j) h)
              clear hx hy
              generalize hse : x.getD j 0 = s at *
              generalize hte : y.getD j 0 = t at *
              have HSE := Lib.hid hse
              have HTE := Lib.hid hte
              clear hse hte
              by_cases hst : s = t
              · have d5 : (s != t) = false := by simpa using hst
                have HS := Lib.hid hst
                clear hst
                go_wp2_with fail
                go_quiet (fail)
                go_wp2_with fail
                go_roundw
                case rel => exact ⟨j + 1, by omega, by go_num, all_succ HZJ.out (by rw [HSE.out, HTE.out]; exact HS.out), (by first | exact ⟨_, rfl⟩ | exact ex_drewN)⟩
                case measure => simp [intOf]; omega
              · have d5 : (s != t) = true := by simpa using hst
                have HS := Lib.hid hst
                clear hst
                go_wp2_with fail
                go_quiet (fail)
                go_wp2_with fail
                go_ret
                exact ⟨ret_bool (by simpa using HN.out (HM.out HS.out)), (by first | exact ⟨_, rfl⟩ | exact ex_drewN)⟩
            · obtain rfl : j = x.length := by omega
              go_wp2_with fail
              go_roundw
              case rel => exact ⟨k + 1, by omega, by go_num, all_succ HZ.out (by rw [HXE.out, HYE.out]; exact getD_ext HX.out HZJ.out), _, rfl⟩
              case measure => simp [intOf]; omega
        · have d3 : ((x.length : Int) != (y.length : Int)) = true := by simp; omega
          have d4 : (x.length != y.length) = true := by simp; omega
          have HX := Lib.hid hxy
          clear hxy
          go_wp2_with fail
          go_quiet (fail)
          go_wp2_with fail
          go_ret
          exact ⟨ret_bool (by simpa using HN.out (fun e => HX.out (by rw [e]))), (by first | exact ⟨_, rfl⟩ | exact ex_drewN)⟩
      · obtain rfl : k = A.length := by omega
        go_wp2_with fail
        go_ret
        exact ⟨ret_bool (by simpa using getD_ext HL.out HZ.out), _, rfl⟩
  · have d1 : ((A.length : Int) != (B.length : Int)) = true := by simp; omega
    have d2 : (A.length != B.length) = true := by simp; omega
    have HL := Lib.hid hl
    clear hl
    go_enter Try.func55, Try.ntmps55
    go_wp2_with fail
    go_ret
    exact ⟨ret_bool (by simpa using fun e => HL.out (by rw [e])), 0, rfl⟩

theorem tab_one (w : World) (v : Value) (xs : List Int) (h : IntsAt w v xs) : Tab (w.alloc (.cells #[v] 22)) (.slice (some ⟨w.heap.size, 0, none⟩) 1 1) [xs] := by
  refine ⟨[v], ⟨_, 1, 1, rfl, rfl, Nat.le_refl _, by simp [maxLen], fun _ => ⟨w.heap.size, 0, rfl, fun j u hu => ?_⟩⟩, rfl, fun i hi => ?_⟩
  · have : j = 0 := by
      rcases j with _ | j
      · rfl
      · simp at hu
    subst this
    simp at hu
    subst hu
    have := heap_alloc_new w (.cells #[v] 22)
    unfold World.cell?
    rw [this]
    rfl
  · have : i = 0 := by simpa using hi
    subst this
    exact ⟨v, rfl, h.below ((Below.refl _ _).alloc (Nat.le_refl _) _)⟩

set_option maxRecDepth 100000 in
set_option maxHeartbeats 400000 in
theorem equal_any (w : World) (va vb : Value) (xs ys : List Int) (ha : IntsAt w va xs) (hb : IntsAt w vb ys) :
    Calls Try.prog 31 #[va, vb] w fun e w' => e = .returned (.bool (decide (xs = ys))) ∧ Below w.heap.size w w' := by
  obtain ⟨A, ca, rfl, -⟩ := ha.open_
  obtain ⟨B, cb, rfl, -⟩ := hb.open_
  have hb1 : Below w.heap.size w (w.alloc (.cells #[.slice A xs.length ca] 22)) := (Below.refl _ _).alloc (Nat.le_refl _) _
  have hb2 : Below w.heap.size w ((w.alloc (.cells #[.slice A xs.length ca] 22)).alloc (.cells #[.slice B ys.length cb] 22)) := hb1.alloc (by simp) _
  have h1 := tab_one w _ xs ha
  have h2 := tab_one (w.alloc (.cells #[.slice A xs.length ca] 22)) _ ys (hb.below hb1)
  have h1' : Tab ((w.alloc (.cells #[.slice A xs.length ca] 22)).alloc (.cells #[.slice B ys.length cb] 22)) (.slice (some ⟨w.heap.size, 0, none⟩) 1 1) [xs] := kept_tab.below h1 ((Below.refl _ _).alloc (Nat.le_refl _) _)
  rw [World.size_alloc] at h2
  have HC := Lib.hid (same18_any _ _ _ [xs] [ys] h1' h2)
  have HB := Lib.hid hb2
  clear h1 h2 h1' hb1 hb2 ha hb
  go_enter Try.func31, Try.ntmps31
  go_wp2_with (first | (go_at_call 55; (with_reducible refine HC.out.mono ?_); rintro e w' ⟨rfl, q, rfl⟩))
  go_ret
  exact ⟨ret_bool (by simp), below_drewN HB.out _⟩
end Go.Proofs
namespace Go.Proofs
open Go.RowKit Go.Proofs.Pc

/-- The presentation p by value: its three slices read as P. -/
def PcAt (w : World) (v0 v1 v2 : Value) (P : PcD) : Prop := IntsAt w v0 P.orders ∧ Tab w v1 P.powers ∧ Tab3 w v2 P.conj
theorem PcAt.keep {w w' : World} {v0 v1 v2 : Value} {P : PcD} (h : PcAt w v0 v1 v2 P) (hk : ∀ k, k < w.heap.size → w'.heap[k]? = w.heap[k]?) : PcAt w' v0 v1 v2 P :=
  ⟨kept_ints _ _ _ _ hk h.1, kept_tab _ _ _ _ hk h.2.1, kept_tab3 _ _ _ _ hk h.2.2⟩
theorem PcAt.below {w w' : World} {v0 v1 v2 : Value} {P : PcD} (h : PcAt w v0 v1 v2 P) (hb : Below w.heap.size w w') : PcAt w' v0 v1 v2 P := h.keep hb.block

set_option maxHeartbeats 400000 in
theorem lists_any (w : World) (bn bp : Nat) (v0 vl : Value) (P : PcD) (l : List Int) (above : Int) (hn : w.cell? ⟨bn, 0, none⟩ = some (.int .i64 P.n)) (hp : w.cell? ⟨bp, 0, none⟩ = some v0)
    (h0 : IntsAt w v0 P.orders) (hl : IntsAt w vl l) :
    Calls Try.prog 56 #[vl, .int .i64 above, .pointer (some ⟨bn, 0, none⟩), .pointer (some ⟨bp, 0, none⟩)] w fun e w' => e = .returned (.int .i64 (listErr P l above)) ∧ w = w' := by
  have H0 := Lib.hid h0
  have HL := Lib.hid hl
  obtain ⟨A, ca, rfl, ha1, ha2, _⟩ := hl.open_
  clear h0 hl
  by_cases hlen : l.length = P.n
  · have d1 : (l.length != P.n) = false := by simpa using hlen
    have HE := Lib.hid hlen
    clear hlen
    cases hb : normalB P.orders l above
    · have HB := Lib.hid hb
      have hq : listErr P l above = 2 := by unfold listErr; rw [if_pos HE.out, HB.out]; rfl
      have HQ := Lib.hid hq
      clear hb hq
      go_enter Try.func56, Try.ntmps56
      go_wp2_with (go_at_call 57; refine (normal_any _ _ _ _ _ _ H0.out HL.out (by rw [HE.out]; exact Nat.le_refl _)).mono ?_; rintro e w' ⟨rfl, rfl⟩; rw [HB.out])
      go_ret
      exact ⟨ret_int HQ.out.symm, rfl⟩
    · have HB := Lib.hid hb
      have hq : listErr P l above = 0 := by unfold listErr; rw [if_pos HE.out, HB.out]; rfl
      have HQ := Lib.hid hq
      clear hb hq
      go_enter Try.func56, Try.ntmps56
      go_wp2_with (go_at_call 57; refine (normal_any _ _ _ _ _ _ H0.out HL.out (by rw [HE.out]; exact Nat.le_refl _)).mono ?_; rintro e w' ⟨rfl, rfl⟩; rw [HB.out])
      go_ret
      exact ⟨ret_int HQ.out.symm, rfl⟩
  · have d1 : (l.length != P.n) = true := by simpa using hlen
    have hq : listErr P l above = 3 := by unfold listErr; rw [if_neg hlen]
    have HQ := Lib.hid hq
    clear hq
    go_enter Try.func56, Try.ntmps56
    go_wp2_with fail
    go_ret
    exact ⟨ret_int HQ.out.symm, rfl⟩

set_option maxHeartbeats 400000 in
theorem chk2_any (w : World) (bn bp : Nat) (v0 v1 v2 : Value) (P : PcD) (hn : w.cell? ⟨bn, 0, none⟩ = some (.int .i64 P.n)) (hp1 : w.cell? ⟨bp, 1, none⟩ = some v1) (hp2 : w.cell? ⟨bp, 2, none⟩ = some v2) (hP : PcAt w v0 v1 v2 P) :
    Calls Try.prog 58 #[.pointer (some ⟨bn, 0, none⟩), .pointer (some ⟨bp, 0, none⟩)] w fun e w' => e = .returned (.tuple #[.int .i64 (lenErr P), .int .i64 0]) ∧ w = w' := by
  obtain ⟨A1, c1, rfl, ha1, ha2, _⟩ := hP.2.1.open_
  obtain ⟨A2, c2, rfl, hb1, hb2, _⟩ := hP.2.2.open_
  clear hP
  unfold lenErr
  by_cases h12 : P.n ≤ 12
  · rw [if_pos h12]
    by_cases h1 : P.powers.length = P.n
    · by_cases h2 : P.conj.length = P.n
      · rw [if_pos ⟨h1, h2⟩]
        have d1 : (P.powers.length != P.n) = false := by simpa using h1
        have d2 : (P.conj.length != P.n) = false := by simpa using h2
        clear h1 h2
        go_enter Try.func58, Try.ntmps58
        go_wp2_with fail
        go_ret2
        exact ⟨rfl, rfl⟩
      · rw [if_neg (fun h => h2 h.2)]
        have d1 : (P.powers.length != P.n) = false := by simpa using h1
        have d2 : (P.conj.length != P.n) = true := by simpa using h2
        clear h1 h2
        go_enter Try.func58, Try.ntmps58
        go_wp2_with fail
        go_ret2
        exact ⟨rfl, rfl⟩
    · rw [if_neg (fun h => h1 h.1)]
      have d1 : (P.powers.length != P.n) = true := by simpa using h1
      clear h1
      go_enter Try.func58, Try.ntmps58
      go_wp2_with fail
      go_ret2
      exact ⟨rfl, rfl⟩
  · rw [if_neg h12]
    go_enter Try.func58, Try.ntmps58
    go_wp2_with fail
    go_ret2
    exact ⟨rfl, rfl⟩

/-- the predicate of the relative orders -/
theorem ordPred_any (w : World) (x : Int) : Calls Try.prog 61 #[.int .i64 x] w fun e w' => e = .returned (.bool (decide (x < 2 ∨ 1000 < x))) ∧ w = w' := by
  by_cases h1 : x < 2
  · go_enter Try.func61, Try.ntmps61
    go_wp2_with fail
    go_ret
    exact ⟨ret_bool (by first | (simp; done) | (simp; omega)), rfl⟩
  · by_cases h2 : 1000 < x
    · go_enter Try.func61, Try.ntmps61
      go_wp2_with fail
      go_ret
      exact ⟨ret_bool (by first | (simp; done) | (simp; omega)), rfl⟩
    · go_enter Try.func61, Try.ntmps61
      go_wp2_with fail
      go_ret
      exact ⟨ret_bool (by first | (simp; done) | (simp; omega)), rfl⟩

def ordBad (l : List Int) (k : Nat) : Prop := l.getD k 0 < 2 ∨ 1000 < l.getD k 0
instance (l : List Int) (k : Nat) : Decidable (ordBad l k) := by unfold ordBad; infer_instance

def IdxSays (l : List Int) (r : Int) : Prop := ((r = -1 ∧ ∀ k, k < l.length → ¬ ordBad l k) ∨ (∃ k : Nat, r = k ∧ k < l.length ∧ ordBad l k ∧ ∀ j, j < k → ¬ ordBad l j))

/-- slices.IndexFunc on the relative orders: the first bad one, or -1. -/
theorem indexFunc_any (w : World) (v : Value) (l : List Int) (h : IntsAt w v l) :
    Calls Try.prog 60 #[v, .func (.func 61) #[] #[]] w fun e w' => (∃ r : Int, e = .returned (.int .i64 r) ∧ -1 ≤ r ∧ r ≤ 9223372036854775806 ∧ IdxSays l r) ∧ w = w' := by
  obtain ⟨A, ca, rfl, ha1, ha2, ha⟩ := h.open_
  clear h
  have HA := Lib.hid ha
  clear ha
  go_enter Try.func60, Try.ntmps60
  go_wp2_with fail
  go_loop [5, 8] (fun _ i => ∃ k : Nat, k ≤ l.length ∧ i = .int .i64 k ∧ ∀ j, j < k → ¬ ordBad l j) (fun _ i => l.length - (intOf i).toNat)
  case atStart => exact ⟨0, Nat.zero_le _, rfl, fun j hj => absurd hj (by omega)⟩
  case round =>
    obtain ⟨k, hk, rfl, hall⟩ := hrel
    have HL := Lib.hid hall
    clear hall
    by_cases hlt : k < l.length
    · obtain ⟨b, off, rfl, hc⟩ := HA.out (by omega)
      have c1 := hc k hlt
      have hbad : ordBad l k ↔ (l.getD k 0 < 2 ∨ 1000 < l.getD k 0) := Iff.rfl
      have HBad := Lib.hid hbad
      clear hc hbad
      generalize l.getD k 0 = x at *
      by_cases hx : x < 2 ∨ 1000 < x
      · have hd : decide (x < 2 ∨ 1000 < x) = true := decide_eq_true hx
        have HD := Lib.hid hd
        have HX := Lib.hid hx
        clear hd hx
        go_wp2_with (go_at_call 61; refine (ordPred_any _ x).mono ?_; rintro e w' ⟨rfl, rfl⟩; rw [HD.out])
        go_ret
        exact ⟨⟨k, rfl, by omega, by omega, .inr ⟨k, rfl, hlt, HBad.out.2 HX.out, HL.out⟩⟩, rfl⟩
      · have hd : decide (x < 2 ∨ 1000 < x) = false := decide_eq_false hx
        have HD := Lib.hid hd
        have HX := Lib.hid hx
        clear hd hx
        go_wp2_with (go_at_call 61; refine (ordPred_any _ x).mono ?_; rintro e w' ⟨rfl, rfl⟩; rw [HD.out])
        go_round
        case rel => exact ⟨k + 1, by omega, by go_num, fun j hj => by
          rcases Nat.lt_or_ge j k with h | h
          · exact HL.out j h
          · obtain rfl : j = k := by omega
            exact fun hh => HX.out (HBad.out.1 hh)⟩
        case measure => simp [intOf]; omega
    · go_wp2_with fail
      go_ret
      exact ⟨⟨-1, rfl, by omega, by omega, .inl ⟨rfl, fun j hj => HL.out j (by omega)⟩⟩, rfl⟩

theorem ordErr_bad {P : PcD} {k : Nat} : ordBad P.orders k ↔ ordErr P k ≠ 0 := by
  unfold ordErr ordBad PcD.ord
  by_cases h : 2 ≤ P.orders.getD k 0 ∧ P.orders.getD k 0 ≤ 1000
  · rw [if_pos h]; constructor <;> intro h' <;> omega
  · rw [if_neg h]; constructor <;> intro h' <;> omega

theorem chk3_any (w : World) (bp : Nat) (v0 : Value) (P : PcD) (hp : w.cell? ⟨bp, 0, none⟩ = some v0) (h0 : IntsAt w v0 P.orders) :
    Calls Try.prog 59 #[.pointer (some ⟨bp, 0, none⟩)] w fun e w' => e = .returned (.tuple #[.int .i64 (firstP (ordErr P) P.n).1, .int .i64 (firstP (ordErr P) P.n).2]) ∧ w = w' := by
  have H0 := Lib.hid h0
  clear h0
  refine Calls.mono (R := fun e w' => (∃ r : Int, e = .returned (.tuple #[.int .i64 (if 0 ≤ r then 2 else 0), .int .i64 (if 0 ≤ r then r + 1 else 0)]) ∧ IdxSays P.orders r) ∧ w = w') ?_ ?_
  · go_enter Try.func59, Try.ntmps59
    go_wp2_with (go_at_call 60; refine (indexFunc_any _ _ _ H0.out).mono ?_; rintro e w' ⟨⟨r, rfl, hr1, hr2, hr⟩, rfl⟩; have HR := Lib.hid hr; clear hr)
    · have hr0 : 0 ≤ r := by assumption
      go_ret2
      exact ⟨⟨r, by rw [if_pos hr0, if_pos hr0]; rfl, HR.out⟩, rfl⟩
    · have hr0 : ¬ 0 ≤ r := by omega
      go_ret2
      exact ⟨⟨r, by rw [if_neg hr0, if_neg hr0]; rfl, HR.out⟩, rfl⟩
  · rintro e w' ⟨⟨r, rfl, hr⟩, rfl⟩
    refine ⟨?_, rfl⟩
    rcases hr with ⟨rfl, h⟩ | ⟨k, rfl, hk, hb, h⟩
    · have : firstP (ordErr P) P.n = (0, 0) := by
        have : ∀ n, n ≤ P.n → firstP (ordErr P) n = (0, 0) := by
          intro n
          induction n with
          | zero => intro _; rfl
          | succ n ih => intro hn; exact firstP_step (ih (by omega)) (Decidable.byContradiction fun hh => h n (by show n < P.n; omega) (ordErr_bad.2 hh))
        exact this _ (Nat.le_refl _)
      rw [this]; rfl
    · have h0 : ∀ n, n ≤ k → firstP (ordErr P) n = (0, 0) := by
        intro n
        induction n with
        | zero => intro _; rfl
        | succ n ih => intro hn; exact firstP_step (ih (by omega)) (Decidable.byContradiction fun hh => h n (by omega) (ordErr_bad.2 hh))
      rw [firstP_hit (h0 k (Nat.le_refl _)) (ordErr_bad.1 hb) P.n hk]
      have : ordErr P k = 2 := by
        have := ordErr_bad.1 hb
        unfold ordErr at this ⊢
        by_cases hc : 2 ≤ P.ord k ∧ P.ord k ≤ 1000
        · rw [if_pos hc] at this; exact absurd rfl this
        · rw [if_neg hc]
      rw [this, if_pos (by omega), if_pos (by omega)]
end Go.Proofs
