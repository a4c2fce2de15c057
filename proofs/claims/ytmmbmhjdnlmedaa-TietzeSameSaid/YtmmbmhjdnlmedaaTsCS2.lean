/- Coset tables, plainly: what an enumeration's table is; maps between tables; how many cosets lie over one; Representatives lead to their cosets, plainly; Permutations of a few points, plainly, for CosetMaps: how letters act on them, orders of words, maps of tables to points; The law's permutations out of numbers, plainly (f63); Words for memory: slices that read as lists; slices of the call's own that grow; slices.IndexFunc and slices.ContainsFunc at a list of numbers, for a predicate that only reads; The state of coset.Standard: the map of numbers, the order, the rows; its steps, as equations on runs. -/
import Derived.Test.YtmmbmhjdnlmedaaTsCS1
import Derived.WalkKit
import Derived.WalkSpells
import Derived.WalkLawsBesides
import Derived.Lib.Hide
import Derived.Deep.QuietTactic
import Derived.BigQuiet
import Derived.KernelRfl
import Derived.Shelf.Abstract
import Derived.Laws.AppendOwn
import Derived.Maps.AppendAt
import Derived.Maps.OwnSet
import Derived.Maps.OwnOps
import Derived.Deep.AppendSrc
import Derived.Test.YtmmbmhjdnlmedaaProg
namespace Go.Proofs.Ct
structure Coset (g : Nat) (rels sub : List W) (t : Tb) : Prop where
  full : Full g t
  std : std t 0 = some t
  rel : ∀ i, i < t.length → ∀ j, j < rels.length → Way t i (rels.getD j []) i
  subc : ∀ j, j < sub.length → Way t 0 (sub.getD j []) 0
  univ : ∀ {α : Type} {D : α → Prop} {act : α → Nat → α} {p0 : α}, Mdl g rels D act → D p0 → (∀ j, j < sub.length → actW act p0 (sub.getD j []) = p0) → ∃ φ : Nat → α, φ 0 = p0 ∧ (∀ x, x < t.length → D (φ x)) ∧ ∀ x c y, x < t.length → c < 2 * g → Edge t x c y → act (φ x) c = φ y
section
variable {g lim : Nat} {rels sub : List W} {t u : Tb} {φ ψ : Nat → Nat}
/-- where a letter leads -/
def nx (t : Tb) (x c : Nat) : Nat := (t.at x c).toNat
theorem Full.nx (h : Full g t) {x c : Nat} (hx : x < t.length) (hc : c < 2 * g) : Ct.nx t x c < t.length ∧ Edge t x c (Ct.nx t x c) := by
  obtain ⟨y, hy, he⟩ := h.edge hx hc
  have : Ct.nx t x c = y := by unfold Ct.nx; unfold Edge at he; omega
  rw [this]; exact ⟨hy, he⟩
theorem Full.way (h : Full g t) : ∀ {w : W} {x : Nat}, LOk g w → x < t.length → actW (Ct.nx t) x w < t.length ∧ Way t x w (actW (Ct.nx t) x w) := by
  intro w
  induction w with
  | nil => intro x _ hx; exact ⟨hx, rfl⟩
  | cons l w ih =>
    intro x hw hx
    obtain ⟨h1, h2⟩ := h.nx hx (col_ltL hw.cons.1)
    obtain ⟨h3, h4⟩ := ih hw.cons.2 h1
    exact ⟨h3, _, h2, h4⟩
theorem way_fun : ∀ {w : W} {x y z : Nat}, Way t x w y → Way t x w z → y = z := by
  intro w
  induction w with
  | nil => intro x y z h1 h2; have e1 : x = y := h1; have e2 : x = z := h2; omega
  | cons l w ih =>
    rintro x y z ⟨a, h1, h2⟩ ⟨b, h3, h4⟩
    have : a = b := by unfold Edge at h1 h3; omega
    rw [this] at h2
    exact ih h2 h4
theorem Full.actW_of (h : Full g t) {w : W} {x y : Nat} (hw : LOk g w) (hx : x < t.length) (h1 : Way t x w y) : actW (Ct.nx t) x w = y := way_fun (h.way hw hx).2 h1
theorem Full.mdl (h : Full g t) (hr : ∀ j, j < rels.length → LOk g (rels.getD j [])) (hc : ∀ i, i < t.length → ∀ j, j < rels.length → Way t i (rels.getD j []) i) : Mdl g rels (fun x => x < t.length) (Ct.nx t) :=
  ⟨fun _ _ hp hcc => (h.nx hp hcc).1, fun p c hp hcc => by
    obtain ⟨h1, h2⟩ := h.nx hp hcc
    have h3 := h.good.eback hp hcc h2
    obtain ⟨h4, h5⟩ := h.nx h1 (flp_lt2 hcc)
    unfold Edge at h3 h5
    omega, fun p i hp hi => h.actW_of (hr i hi) hp (hc p hp i hi)⟩
/-- maps that agree at 0 are equal -/
theorem Hm.unique (ht : Full g t) (h1 : Hm g t u φ) (h2 : Hm g t u ψ) (h0 : φ 0 = ψ 0) : ∀ x, x < t.length → φ x = ψ x := fun x hx => by
  have key : ∀ y, Reach g t 0 y → y < t.length ∧ φ y = ψ y := fun y hy => by
    induction hy with
    | refl => exact ⟨ht.good.n1, h0⟩
    | @step y z c _ hc he ih =>
      obtain ⟨i1, i2⟩ := ih
      refine ⟨ht.good.elt i1 hc he, ?_⟩
      have a := h1.edge _ _ _ i1 hc he
      have b := h2.edge _ _ _ i1 hc he
      rw [i2] at a
      unfold Edge at a b
      omega
  exact (key x (ht.conn x hx)).2
theorem Hm.comp {v : Tb} (h1 : Hm g t u φ) (h2 : Hm g u v ψ) : Hm g t v (fun x => ψ (φ x)) := ⟨fun x hx => h2.lt _ (h1.lt x hx), fun x c y hx hc he => h2.edge _ _ _ (h1.lt x hx) hc (h1.edge x c y hx hc he)⟩
theorem Hm.id : Hm g t t (fun x => x) := ⟨fun _ h => h, fun _ _ _ _ _ h => h⟩
theorem Hm.inj (ht : Full g t) (h1 : Hm g t u φ) (h2 : Hm g u t ψ) (h0 : ψ (φ 0) = 0) : ∀ x y, x < t.length → y < t.length → φ x = φ y → x = y := fun x y hx hy e => by
  have a : ψ (φ x) = x := Hm.unique ht (h1.comp h2) Hm.id h0 x hx
  have b : ψ (φ y) = y := Hm.unique ht (h1.comp h2) Hm.id h0 y hy
  rw [← a, ← b, e]
theorem len_le_of_sub : ∀ {a b : List Nat}, a.Nodup → (∀ x ∈ a, x ∈ b) → a.length ≤ b.length
  | [], _, _, _ => Nat.zero_le _
  | x :: a, b, hn, h => by
    obtain ⟨h1, h2⟩ := List.nodup_cons.1 hn
    have hx := h x (List.mem_cons_self ..)
    have := len_le_of_sub (a := a) (b := b.erase x) h2 fun y hy => by
      have hne : y ≠ x := fun e => h1 (e ▸ hy)
      exact (List.mem_erase_of_ne hne).2 (h y (List.mem_cons_of_mem _ hy))
    rw [List.length_erase_of_mem hx] at this
    have := List.length_pos_of_mem hx
    simp only [List.length_cons]
    omega
theorem nodup_map_on {f : Nat → Nat} : ∀ {l : List Nat}, (∀ x ∈ l, ∀ y ∈ l, f x = f y → x = y) → l.Nodup → (l.map f).Nodup
  | [], _, _ => List.nodup_nil
  | x :: l, h, hn => by
    obtain ⟨h1, h2⟩ := List.nodup_cons.1 hn
    rw [List.map_cons]
    refine List.nodup_cons.2 ⟨fun hm => ?_, nodup_map_on (fun a ha b hb => h a (List.mem_cons_of_mem _ ha) b (List.mem_cons_of_mem _ hb)) h2⟩
    obtain ⟨y, hy, he⟩ := List.mem_map.1 hm
    have := h y (List.mem_cons_of_mem _ hy) x (List.mem_cons_self ..) he
    exact h1 (this ▸ hy)
/-- how many cosets lie over a -/
def fib (φ : Nat → Nat) (n a : Nat) : Nat := (List.range n).countP fun x => decide (φ x = a)
theorem fib_le (ht : Full g t) (h : Hm g t u φ) {a b c : Nat} (hc : c < 2 * g) (he : Edge u a c b) : fib φ t.length a ≤ fib φ t.length b := by
  unfold fib
  rw [List.countP_eq_length_filter, List.countP_eq_length_filter]
  have hmem : ∀ x k, x ∈ (List.range t.length).filter (fun x => decide (φ x = k)) ↔ x < t.length ∧ φ x = k := fun x k => by simp
  have h1 : (((List.range t.length).filter fun x => decide (φ x = a)).map fun x => Ct.nx t x c).length ≤ ((List.range t.length).filter fun x => decide (φ x = b)).length := by
    refine len_le_of_sub (nodup_map_on (fun x hx y hy e => ?_) (List.Pairwise.filter _ List.nodup_range)) fun z hz => ?_
    · obtain ⟨x1, -⟩ := (hmem _ _).1 hx
      obtain ⟨y1, -⟩ := (hmem _ _).1 hy
      obtain ⟨k1, k2⟩ := ht.nx x1 hc
      obtain ⟨k3, k4⟩ := ht.nx y1 hc
      have m1 := ht.good.eback x1 hc k2
      have m2 := ht.good.eback y1 hc k4
      rw [e] at m1
      unfold Edge at m1 m2
      omega
    · obtain ⟨x, hx, rfl⟩ := List.mem_map.1 hz
      obtain ⟨x1, x2⟩ := (hmem _ _).1 hx
      obtain ⟨k1, k2⟩ := ht.nx x1 hc
      refine (hmem _ _).2 ⟨k1, ?_⟩
      have := h.edge _ _ _ x1 hc k2
      rw [x2] at this
      unfold Edge at this he
      omega
  rwa [List.length_map] at h1
theorem countP_lt_succ (φ : Nat → Nat) (m : Nat) : ∀ l : List Nat, l.countP (fun x => decide (φ x < m + 1)) = l.countP (fun x => decide (φ x < m)) + l.countP (fun x => decide (φ x = m))
  | [] => rfl
  | x :: l => by
    have ih := countP_lt_succ φ m l
    rw [List.countP_cons, List.countP_cons, List.countP_cons, ih]
    by_cases h1 : φ x < m
    · simp [h1, show φ x < m + 1 by omega, show φ x ≠ m by omega]; omega
    · by_cases h2 : φ x = m
      · simp [h2]; omega
      · simp [h1, h2, show ¬ φ x < m + 1 by omega]
/-- the cosets over each are as many -/
theorem Hm.dvd (ht : Full g t) (hu : Full g u) (h : Hm g t u φ) : ∃ k, t.length = u.length * k := by
  have heq : ∀ a, a < u.length → fib φ t.length a = fib φ t.length 0 := fun a ha => by
    have key : ∀ y, Reach g u 0 y → y < u.length ∧ fib φ t.length y = fib φ t.length 0 := fun y hy => by
      induction hy with
      | refl => exact ⟨hu.good.n1, rfl⟩
      | @step y z c _ hc he ih =>
        obtain ⟨i1, i2⟩ := ih
        refine ⟨hu.good.elt i1 hc he, ?_⟩
        have a := fib_le ht h hc he
        have b := fib_le ht h (flp_lt2 hc) (hu.good.eback i1 hc he)
        omega
    exact (key a (hu.conn a ha)).2
  have hsum : ∀ m, m ≤ u.length → (List.range t.length).countP (fun x => decide (φ x < m)) = m * fib φ t.length 0 := fun m => by
    induction m with
    | zero => intro _; simp
    | succ m ih =>
      intro hm
      rw [countP_lt_succ, ih (by omega), Nat.add_mul, Nat.one_mul, ← heq m (by omega)]
      rfl
  refine ⟨fib φ t.length 0, ?_⟩
  rw [← hsum u.length (Nat.le_refl _)]
  have : (List.range t.length).countP (fun x => decide (φ x < u.length)) = (List.range t.length).length := by
    rw [List.countP_eq_length]
    intro x hx
    have := h.lt x (by simpa using hx)
    simpa using this
  rw [this, List.length_range]
/-- Holds accepts the table -/
theorem Coset.holds (h : Coset g rels sub t) : holdsB rels sub t = true := by
  unfold holdsB
  rw [Bool.and_eq_true, Bool.and_eq_true]
  refine ⟨⟨?_, ?_⟩, ?_⟩
  · unfold complete
    rw [Bool.not_eq_true', List.any_eq_false]
    intro row hrow hc
    obtain ⟨r, hr, rfl⟩ := List.mem_iff_getElem.1 hrow
    have h1 : (-1 : Int) ∈ t[r] := by simpa using hc
    obtain ⟨c, hc, he⟩ := List.mem_iff_getElem.1 h1
    have e : t.row r = t[r] := by unfold Tb.row; rw [List.getD_eq_getElem?_getD, List.getElem?_eq_getElem hr]; rfl
    have h2 := h.full.pos r hr c (by rw [← h.full.good.len r hr, e]; exact hc)
    unfold Tb.at at h2
    rw [e, List.getD_eq_getElem?_getD, List.getElem?_eq_getElem hc, he] at h2
    simp at h2
  · unfold staysB
    rw [List.all_eq_true]
    intro w hw
    obtain ⟨j, hj, rfl⟩ := List.mem_iff_getElem.1 hw
    have h1 := h.subc j hj
    rw [List.getD_eq_getElem?_getD, List.getElem?_eq_getElem hj] at h1
    have := leads_iff.2 h1
    simpa using this
  · rw [List.all_eq_true]
    intro r hr
    have hr' : r < t.length := by simpa using hr
    unfold staysB
    rw [List.all_eq_true]
    intro w hw
    obtain ⟨j, hj, rfl⟩ := List.mem_iff_getElem.1 hw
    have h1 := h.rel r hr' j hj
    rw [List.getD_eq_getElem?_getD, List.getElem?_eq_getElem hj] at h1
    have := leads_iff.2 h1
    simpa using this
end
end Go.Proofs.Ct
namespace Go.Proofs.Ct
theorem col_letter (c : Nat) : col (letter c) = c := by
  unfold col letter
  split <;> split <;> omega
def RW (t : Tb) (out : List W) : Prop := ∀ j, j < out.length → Way t 0 (out.getD j []) j
section
variable {g : Nat} {t : Tb}
theorem repCol_len (r c : Nat) (out : List W) : out.length ≤ (repCol t r c out).length := by
  unfold repCol
  split
  · simp
  · exact Nat.le_refl _
theorem RW.col {out : List W} (h : RW t out) {r c : Nat} (hr : r < out.length) : RW t (repCol t r c out) := by
  unfold repCol
  split
  · rename_i he
    intro j hj
    rcases Nat.lt_or_ge j out.length with h1 | h1
    · have : (out ++ [out.getD r [] ++ [letter c]]).getD j [] = out.getD j [] := by simp [List.getD_eq_getElem?_getD, List.getElem?_append_left h1]
      rw [this]
      exact h j h1
    · obtain rfl : j = out.length := by simp at hj; omega
      have : (out ++ [out.getD r [] ++ [letter c]]).getD out.length [] = out.getD r [] ++ [letter c] := by simp [List.getD_eq_getElem?_getD]
      rw [this]
      refine way_app.2 ⟨r, h r hr, way_one.2 ?_⟩
      unfold Edge
      rw [col_letter]
      exact he
  · exact h
theorem RW.row {out : List W} (h : RW t out) {r : Nat} (hr : r < out.length) : RW t (repRow t r out) :=
  (foldTo_inv (p := fun _ out => RW t out ∧ r < out.length) ⟨h, hr⟩ _ fun c x _ ⟨h1, h2⟩ => ⟨h1.col h2, Nat.lt_of_lt_of_le h2 (repCol_len r c x)⟩).1
end
end Go.Proofs.Ct
namespace Go.Proofs.Ct
structure Prm (d : Nat) (a : List Nat) : Prop where
  len : a.length = d
  nd : a.Nodup
  lt : ∀ x ∈ a, x < d
section
variable {d : Nat} {a b : List Nat}
theorem getD_mem0 {l : List Nat} {x : Nat} (h : x < l.length) : l.getD x 0 ∈ l := by
  rw [List.getD_eq_getElem?_getD, List.getElem?_eq_getElem h]
  exact List.getElem_mem h
theorem Prm.get_lt (h : Prm d a) {x : Nat} (hx : x < d) : a.getD x 0 < d := h.lt _ (getD_mem0 (by rw [h.len]; exact hx))
theorem Prm.inj (h : Prm d a) {x y : Nat} (hx : x < d) (hy : y < d) (e : a.getD x 0 = a.getD y 0) : x = y := by
  have hx' : x < a.length := by rw [h.len]; exact hx
  have hy' : y < a.length := by rw [h.len]; exact hy
  rw [List.getD_eq_getElem?_getD, List.getElem?_eq_getElem hx', List.getD_eq_getElem?_getD, List.getElem?_eq_getElem hy'] at e
  have hp := List.pairwise_iff_getElem.1 h.nd
  simp only [Option.getD_some] at e
  rcases Nat.lt_trichotomy x y with hc | hc | hc
  · exact absurd e (hp x y hx' hy' hc)
  · exact hc
  · exact absurd e.symm (hp y x hy' hx' hc)
theorem Prm.surj (h : Prm d a) {x : Nat} (hx : x < d) : x ∈ a := by
  by_cases hm : x ∈ a
  · exact hm
  · have h1 := len_le_of_sub (a := x :: a) (b := List.range d) (List.nodup_cons.2 ⟨hm, h.nd⟩) (fun y hy => by
      rcases List.mem_cons.1 hy with rfl | hy
      · exact List.mem_range.2 hx
      · exact List.mem_range.2 (h.lt y hy))
    rw [List.length_cons, List.length_range, h.len] at h1
    omega
theorem Prm.back (h : Prm d a) {x : Nat} (hx : x < d) : a.idxOf x < d ∧ a.getD (a.idxOf x) 0 = x := by
  have h1 := List.idxOf_lt_length_of_mem (h.surj hx)
  refine ⟨by rw [h.len] at h1; exact h1, ?_⟩
  rw [List.getD_eq_getElem?_getD, List.getElem?_eq_getElem h1]
  exact List.getElem_idxOf h1
theorem Prm.back_get (h : Prm d a) {x : Nat} (hx : x < d) : a.idxOf (a.getD x 0) = x := by
  obtain ⟨h1, h2⟩ := h.back (h.get_lt hx)
  exact h.inj h1 hx h2
/-- how column c moves a point -/
def act2 (a b : List Nat) (p c : Nat) : Nat := if c = 0 then a.getD p 0 else if c = 1 then a.idxOf p else if c = 2 then b.getD p 0 else b.idxOf p
/-- f again and again -/
def itf (f : Nat → Nat) : Nat → Nat → Nat
  | 0, x => x
  | n + 1, x => f (itf f n x)
def wpow (w : W) : Nat → W
  | 0 => []
  | n + 1 => wpow w n ++ w
theorem length_wpow (w : W) : ∀ n, (wpow w n).length = n * w.length
  | 0 => by simp [wpow]
  | n + 1 => by rw [wpow, List.length_append, length_wpow w n, Nat.succ_mul]
theorem wpow_ok {g : Nat} {w : W} (h : LOk g w) : ∀ n, LOk g (wpow w n)
  | 0 => fun x hx => by simp [wpow] at hx
  | n + 1 => fun x hx => by
    rw [wpow] at hx
    rcases List.mem_append.1 hx with hx | hx
    · exact wpow_ok h n x hx
    · exact h x hx
theorem act_wpow (act : Nat → Nat → Nat) (w : W) : ∀ (n x : Nat), actW act x (wpow w n) = itf (fun y => actW act y w) n x
  | 0, _ => rfl
  | n + 1, x => by rw [wpow, actW_app, act_wpow act w n x]; rfl
/-- all permutations of d points have an order of at most six: looked through -/
def okO (d : Nat) (l : List Nat) : Bool := (List.range 6).any fun n => (List.range d).all fun x => itf (fun y => l.getD y 0) (n + 1) x == x
def allP (d : Nat) : Nat → List Nat → Bool
  | 0, pre => okO d pre
  | k + 1, pre => (List.range d).all fun x => pre.contains x || allP d k (pre ++ [x])
theorem allP_spec : ∀ (k : Nat) (pre l : List Nat), allP d k pre = true → l.length = k → (pre ++ l).Nodup → (∀ x ∈ l, x < d) → okO d (pre ++ l) = true
  | 0, pre, l, h, hl, _, _ => by
    obtain rfl := List.length_eq_zero_iff.1 hl
    rw [List.append_nil]
    exact h
  | k + 1, pre, l, h, hl, hn, hd => by
    match l, hl with
    | x :: l, hl =>
      rw [allP, List.all_eq_true] at h
      have h1 := h x (List.mem_range.2 (hd x (by simp)))
      rw [Bool.or_eq_true] at h1
      rcases h1 with h1 | h1
      · exfalso
        have h2 : x ∈ pre := by simpa using h1
        have h3 := (List.nodup_append.1 hn).2.2 x h2 x (by simp)
        exact h3 rfl
      · have h2 := allP_spec k (pre ++ [x]) l h1 (by simpa using hl) (by simpa using hn) (fun y hy => hd y (by simp [hy]))
        simpa using h2
set_option maxRecDepth 100000 in
theorem allP_six : (List.range 7).all (fun d => allP d d []) = true := by decide +kernel
theorem itf_congr {f h : Nat → Nat} (hf : ∀ x, x < d → f x < d) (e : ∀ x, x < d → f x = h x) : ∀ (n x : Nat), x < d → itf f n x = itf h n x ∧ itf f n x < d
  | 0, x, hx => ⟨rfl, hx⟩
  | n + 1, x, hx => by
    obtain ⟨h1, h2⟩ := itf_congr hf e n x hx
    refine ⟨?_, hf _ h2⟩
    show f (itf f n x) = h (itf h n x)
    rw [e _ h2, h1]
theorem order_le (hd : d ≤ 6) {f : Nat → Nat} (hf : ∀ x, x < d → f x < d) (hi : ∀ x y, x < d → y < d → f x = f y → x = y) : ∃ n, 1 ≤ n ∧ n ≤ 6 ∧ ∀ x, x < d → itf f n x = x := by
  have h1 := List.all_eq_true.1 allP_six d (List.mem_range.2 (by omega))
  have h2 := allP_spec d [] ((List.range d).map f) h1 (by simp) (by
    rw [List.nil_append]
    exact nodup_map_on (fun x hx y hy e => hi x y (List.mem_range.1 hx) (List.mem_range.1 hy) e) List.nodup_range) (fun x hx => by
    obtain ⟨y, hy, rfl⟩ := List.mem_map.1 hx
    exact hf y (List.mem_range.1 hy))
  rw [List.nil_append] at h2
  obtain ⟨n, hn, h3⟩ := List.any_eq_true.1 h2
  refine ⟨n + 1, by omega, by have := List.mem_range.1 hn; omega, fun x hx => ?_⟩
  have h4 := List.all_eq_true.1 h3 x (List.mem_range.2 hx)
  have h5 := eq_of_beq h4
  rw [(itf_congr (h := fun y => ((List.range d).map f).getD y 0) hf (fun y hy => by show f y = ((List.range d).map f).getD y 0; rw [List.getD_eq_getElem?_getD, List.getElem?_map, List.getElem?_range hy]; rfl) (n + 1) x hx).1]
  exact h5
end
end Go.Proofs.Ct
namespace Go.Proofs.Ct
/-- which of those that are left is taken -/
def pick (l : List Int) (i n : Nat) : Nat := if i < l.length then (l.getD i 0 % (n : Int)).toNat else 0
def perSt (d : Nat) (l : List Int) : Nat → List Nat × List Nat
  | 0 => (List.range d, [])
  | i + 1 => ((perSt d l i).1.take (pick l i (perSt d l i).1.length) ++ (perSt d l i).1.drop (pick l i (perSt d l i).1.length + 1), (perSt d l i).2 ++ [(perSt d l i).1.getD (pick l i (perSt d l i).1.length) 0])
def permF (d : Nat) (l : List Int) : List Nat := (perSt d l d).2
theorem pick_lt (l : List Int) (i : Nat) {n : Nat} (h : 0 < n) : pick l i n < n := by
  unfold pick
  split
  · have h1 := Int.emod_lt_of_pos (l.getD i 0) (show (0 : Int) < (n : Int) by omega)
    have h2 := Int.emod_nonneg (l.getD i 0) (show (n : Int) ≠ 0 by omega)
    omega
  · exact h
theorem perSt_ok (d : Nat) (l : List Int) : ∀ i, i ≤ d → (perSt d l i).1.length = d - i ∧ (perSt d l i).2.length = i ∧ ((perSt d l i).2 ++ (perSt d l i).1).Perm (List.range d)
  | 0, _ => ⟨by simp [perSt], rfl, by simp [perSt]⟩
  | i + 1, hi => by
    obtain ⟨h1, h2, h3⟩ := perSt_ok d l i (by omega)
    rw [perSt]
    generalize (perSt d l i).1 = s at *
    generalize (perSt d l i).2 = o at *
    have hk := pick_lt l i (n := s.length) (by omega)
    generalize pick l i s.length = k at *
    have hs : s = s.take k ++ s.getD k 0 :: s.drop (k + 1) := by
      rw [List.getD_eq_getElem?_getD, List.getElem?_eq_getElem hk]
      exact (List.take_append_drop k s).symm.trans (by rw [List.drop_eq_getElem_cons hk]; rfl)
    refine ⟨by simp; omega, by simp; omega, ?_⟩
    refine List.Perm.trans ?_ h3
    show (o ++ [s.getD k 0] ++ (s.take k ++ s.drop (k + 1))).Perm (o ++ s)
    rw [List.append_assoc]
    refine List.Perm.append_left o ?_
    generalize hx : s.getD k 0 = x at *
    rw [List.singleton_append]
    conv => rhs; rw [hs]
    exact List.perm_middle.symm
theorem permF_prm (d : Nat) (l : List Int) : Prm d (permF d l) := by
  obtain ⟨h1, h2, h3⟩ := perSt_ok d l d (Nat.le_refl _)
  have h4 : (perSt d l d).1 = [] := List.length_eq_zero_iff.1 (by omega)
  rw [h4, List.append_nil] at h3
  exact ⟨h2, h3.nodup_iff.2 List.nodup_range, fun x hx => List.mem_range.1 (h3.mem_iff.1 hx)⟩
theorem perSt_left_lt (d : Nat) (l : List Int) (i : Nat) (hi : i ≤ d) : (∀ x ∈ (perSt d l i).1, x < d) ∧ ∀ x ∈ (perSt d l i).2, x < d := by
  obtain ⟨-, -, h3⟩ := perSt_ok d l i hi
  exact ⟨fun x hx => List.mem_range.1 (h3.mem_iff.1 (by simp [hx])), fun x hx => List.mem_range.1 (h3.mem_iff.1 (by simp [hx]))⟩
end Go.Proofs.Ct
namespace Go.Proofs
open Go.RowKit
/-- The cells from b, off on hold vs. -/
def Row (w : World) (b off : Nat) (vs : List Value) : Prop := ∀ j v, vs[j]? = some v → w.cell? ⟨b, off + j, none⟩ = some v
/-- The slice value v reads as the list vs (elements of one cell). -/
def Sl (w : World) (v : Value) (vs : List Value) : Prop :=
  ∃ A n cap, v = .slice A n cap ∧ n = vs.length ∧ n ≤ cap ∧ cap ≤ maxLen ∧ (0 < n → ∃ b off, A = some ⟨b, off, none⟩ ∧ Row w b off vs)
def ints (xs : List Int) : List Value := xs.map (Value.int .i64)
def Fits (xs : List Int) : Prop := ∀ x ∈ xs, -9223372036854775808 ≤ x ∧ x ≤ 9223372036854775807
def IntsAt (w : World) (v : Value) (xs : List Int) : Prop := Sl w v (ints xs) ∧ Fits xs
section
variable {w w' : World} {v : Value} {vs : List Value}
theorem Row.lt {b off : Nat} (h : Row w b off vs) (hn : 0 < vs.length) : b < w.heap.size := by
  have := h 0 _ (List.getElem?_eq_getElem hn)
  exact World.block_lt_of_cell? w _ this
theorem Row.keep {b off : Nat} (h : Row w b off vs) (hk : ∀ p : Addr, p.block < w.heap.size → w'.cell? p = w.cell? p) : Row w' b off vs := by
  intro j u hu
  have := h j u hu
  rw [hk _ (World.block_lt_of_cell? w _ this)]
  exact this
theorem Sl.keep (h : Sl w v vs) (hk : ∀ p : Addr, p.block < w.heap.size → w'.cell? p = w.cell? p) : Sl w' v vs := by
  obtain ⟨A, n, cap, h1, h2, h3, h4, h5⟩ := h
  exact ⟨A, n, cap, h1, h2, h3, h4, fun hn => let ⟨b, off, ha, hr⟩ := h5 hn; ⟨b, off, ha, hr.keep hk⟩⟩
theorem Sl.below (h : Sl w v vs) (hb : Below w.heap.size w w') : Sl w' v vs := h.keep fun _ hp => hb.cell hp
theorem IntsAt.below {xs : List Int} (h : IntsAt w v xs) (hb : Below w.heap.size w w') : IntsAt w' v xs := ⟨h.1.below hb, h.2⟩
theorem Sl.drewN (h : Sl w v vs) (k : Nat) : Sl (w.drewN k) v vs := h
theorem IntsAt.drewN {xs : List Int} (h : IntsAt w v xs) (k : Nat) : IntsAt (w.drewN k) v xs := h
theorem IntsAt.open_ {xs : List Int} (h : IntsAt w v xs) : ∃ A cap, v = .slice A xs.length cap ∧ xs.length ≤ cap ∧ cap ≤ 9223372036854775807 ∧
    (0 < xs.length → ∃ b off, A = some ⟨b, off, none⟩ ∧ ∀ k, k < xs.length → w.cell? ⟨b, off + k, none⟩ = some (.int .i64 (xs.getD k 0))) := by
  obtain ⟨⟨A, n, cap, h1, h2, h3, h4, h5⟩, hf⟩ := h
  have hl : n = xs.length := by simpa [ints] using h2
  subst hl
  refine ⟨A, cap, h1, h3, by simpa [maxLen] using h4, fun hn => ?_⟩
  obtain ⟨b, off, ha, hr⟩ := h5 hn
  refine ⟨b, off, ha, fun k hk => hr k _ ?_⟩
  simp [ints, List.getElem?_map, List.getD_eq_getElem?_getD, List.getElem?_eq_getElem hk]
theorem Fits.at_ {xs : List Int} (h : Fits xs) (k : Nat) : -9223372036854775808 ≤ xs.getD k 0 ∧ xs.getD k 0 ≤ 9223372036854775807 := by
  rw [List.getD_eq_getElem?_getD]
  rcases Nat.lt_or_ge k xs.length with hk | hk
  · rw [List.getElem?_eq_getElem hk]; exact h _ (List.getElem_mem hk)
  · rw [List.getElem?_eq_none hk]; simp
end
/-- A slice whose elements (one cell each) read, by R, as the list xs. -/
def LAt {α : Type} (R : World → Value → α → Prop) (d : α) (w : World) (v : Value) (xs : List α) : Prop :=
  ∃ vs, Sl w v vs ∧ vs.length = xs.length ∧ ∀ i, i < xs.length → ∃ u, vs[i]? = some u ∧ R w u (xs.getD i d)
def Kept {α : Type} (R : World → Value → α → Prop) : Prop := ∀ w w' v x, (∀ k, k < w.heap.size → w'.heap[k]? = w.heap[k]?) → R w v x → R w' v x
theorem cell_blocks {w w' : World} (h : ∀ k, k < w.heap.size → w'.heap[k]? = w.heap[k]?) (p : Addr) (hp : p.block < w.heap.size) : w'.cell? p = w.cell? p := World.cell?_of_block (h p.block hp)
theorem kept_ints : Kept IntsAt := fun _ _ _ _ hk h => ⟨h.1.keep (cell_blocks hk), h.2⟩
theorem kept_L {α : Type} {R : World → Value → α → Prop} {d : α} (hR : Kept R) : Kept (LAt R d) := fun _w _w' _v _xs hk ⟨vs, h1, h2, h3⟩ =>
  ⟨vs, h1.keep (cell_blocks hk), h2, fun i hi => let ⟨u, hu, hr⟩ := h3 i hi; ⟨u, hu, hR _ _ _ _ hk hr⟩⟩
abbrev Tab := LAt IntsAt []
theorem kept_tab : Kept Tab := kept_L kept_ints
theorem Kept.below {α : Type} {R : World → Value → α → Prop} (hR : Kept R) {w w' : World} {v : Value} {x : α} (h : R w v x) (hb : Below w.heap.size w w') : R w' v x := hR _ _ _ _ hb.block h
/-- The slice opened: an address where there is an element. -/
theorem LAt.open_ {α : Type} {R : World → Value → α → Prop} {d : α} {w : World} {v : Value} {xs : List α} (h : LAt R d w v xs) : ∃ A cap, v = .slice A xs.length cap ∧ xs.length ≤ cap ∧ cap ≤ 9223372036854775807 ∧
    (0 < xs.length → ∃ b off, A = some ⟨b, off, none⟩ ∧ ∀ k, k < xs.length → ∃ u, w.cell? ⟨b, off + k, none⟩ = some u ∧ R w u (xs.getD k d)) := by
  obtain ⟨vs, ⟨A, n, cap, h1, h2, h3, h4, h5⟩, hl, he⟩ := h
  have hn : n = xs.length := h2.trans hl
  subst hn
  refine ⟨A, cap, h1, h3, by simpa [maxLen] using h4, fun hn => ?_⟩
  obtain ⟨b, off, ha, hr⟩ := h5 hn
  refine ⟨b, off, ha, fun k hk => ?_⟩
  obtain ⟨u, hu, hru⟩ := he k hk
  exact ⟨u, hr k u hu, hru⟩
theorem quiet_add_left {P : Program} {f : FuncId} {args : Array Value} {w : World} {a n : Nat} {v : Value}
    (h : Calls P f args (w.drewN (a + n)) fun e w' => e = .returned v ∧ w.drewN (a + n) = w') :
    Calls P f args (w.drewN (a + n)) fun e w'' => e = .returned v ∧ ∃ m, w'' = w.drewN (a + m) :=
  h.mono fun _ _ ⟨he, hm⟩ => ⟨he, n, hm.symm⟩
theorem ret_bool {a b : Bool} (h : a = b) : Ending.returned (.bool a) = Ending.returned (.bool b) := by rw [h]
theorem ret_int {k : IntKind} {a b : Int} (h : a = b) : Ending.returned (.int k a) = Ending.returned (.int k b) := by rw [h]
theorem ret_pair {k l : IntKind} {a b c d : Int} (h : a = c) (h' : b = d) : Ending.returned (.tuple #[.int k a, .int l b]) = Ending.returned (.tuple #[.int k c, .int l d]) := by rw [h, h']
theorem below_drewN {B : Nat} {a w : World} (h : Below B a w) (n : Nat) : Below B a (w.drewN n) := ⟨h.os, h.tape, h.output, h.size, h.block⟩
theorem ints_app (a b : List Int) : ints (a ++ b) = ints a ++ ints b := by simp [ints]
theorem length_ints (a : List Int) : (ints a).length = a.length := by simp [ints]
theorem getD_ext {α : Type} {d : α} {A B : List α} (hl : A.length = B.length) (h : ∀ k, k < A.length → A.getD k d = B.getD k d) : A = B := by
  apply List.ext_getElem hl
  intro i h1 h2
  have := h i h1
  simpa [List.getD_eq_getElem?_getD, h1, h2] using this
theorem getD_ne {α : Type} {d : α} {A B : List α} {k : Nat} (h : A.getD k d ≠ B.getD k d) : A ≠ B := fun e => h (by rw [e])
theorem ex_drewN {w : World} {n m : Nat} : ∃ q, (w.drewN n).drewN m = w.drewN q := ⟨_, World.drewN_drewN _ _ _⟩
theorem all_succ {p : Nat → Prop} {k : Nat} (h : ∀ j, j < k → p j) (hk : p k) : ∀ j, j < k + 1 → p j := fun j hj => by
  rcases Nat.lt_or_ge j k with h1 | h1
  · exact h j h1
  · obtain rfl : j = k := by omega
    exact hk
theorem tab_nil {w : World} : Tab w (.slice none 0 0) [] := ⟨[], ⟨none, 0, 0, rfl, rfl, Nat.le_refl _, by simp [maxLen], fun h => absurd h (by omega)⟩, rfl, fun i hi => absurd hi (by simp)⟩
def allocs : World → List Obj → World
  | w, [] => w
  | w, o :: os => allocs (w.alloc o) os
theorem allocs_below : ∀ (os : List Obj) (w : World) (n : Nat), n ≤ w.heap.size → Below n w (allocs w os)
  | [], _, _, _ => Below.refl _ _
  | o :: os, w, n, h => ((Below.refl n w).alloc h o).trans (allocs_below os (w.alloc o) n (by simp; omega))
theorem allocs_get : ∀ (os : List Obj) (w : World) (i : Nat) (o : Obj), os[i]? = some o → (allocs w os).heap[w.heap.size + i]? = some o
  | [], _, _, _, h => by simp at h
  | o :: os, w, 0, o', h => by
    have e : o = o' := by simpa using h
    subst e
    have hb := allocs_below os (w.alloc o) (w.heap.size + 1) (by simp)
    exact (hb.block w.heap.size (by omega)).trans (heap_alloc_new w o)
  | o :: os, w, i + 1, o', h => by
    have := allocs_get os (w.alloc o) i o' (by simpa using h)
    rw [World.size_alloc] at this
    rw [show w.heap.size + (i + 1) = w.heap.size + 1 + i by omega]
    exact this
section
variable {ops : Array Oper} {rest : List Oper} {o : Oper} {a : Act} {w w' : World} {Q : Exit → Act → World → Prop} {v : Value}
theorem wpList_sel (s : Nat) {op : Op} {t : TypeId} {p : String} {af : Array Edge} {g : Option (Nat × Bool)} (h : wpList Try.prog ops Q (⟨some s, op, t, p, af, g⟩ :: rest) a w) : wpList Try.prog ops Q (⟨some s, op, t, p, af, g⟩ :: rest) a w := h
theorem wpList_val (hg : o.guard = none) (hrun : (execOp a.eval o).run Try.prog w = .ok (.value v) w') (h : wpList Try.prog ops Q rest (a.put o.dst v) w') : wpList Try.prog ops Q (o :: rest) a w :=
  wpList_plain hg fun _ hK => by
    unfold Oper.wp
    rw [hrun]
    exact hK _ _ h
theorem wpList_skip (hg : o.guard = none) (hrun : (execOp a.eval o).run Try.prog w = .ok .skip w') (h : wpList Try.prog ops Q rest (a.put o.dst undef) w') : wpList Try.prog ops Q (o :: rest) a w :=
  wpList_plain hg fun _ hK => by
    unfold Oper.wp
    rw [hrun]
    exact hK _ _ h
theorem r_app (s x : Operand) (t : TypeId) {sv xv v' : Value} (ho : o.op = .call { callee := .builtin .append, args := #[s, x], argTypes := #[t, t] }) (hs : a.eval s = sv) (hx : a.eval x = xv)
    (hr : (Builtin.append_ #[t, t] o.type #[sv, xv]).run Try.prog w = .ok v' w') : (execOp a.eval o).run Try.prog w = .ok (.value v') w' := by
  unfold execOp
  simp only [ho, resolve, invoke, builtin, Sem.run_bind, Sem.run_pure, Result.andThen_ok, List.map_toArray, List.map_cons, List.map_nil, hs, hx, hr]
end
theorem owns_block {w : World} {base e n : Nat} {v : Value} {xs : List Value} (h : w.ownsRow base e 1 v n xs) : ∀ r, v.ownBlock = some r → base ≤ r ∧ ∃ C, w.heap[r]? = some (.cells C e (0, 0)) := fun r hr => by
  rcases h.2 with ⟨rfl, -⟩ | ⟨g, cap, cur, rfl, hb, hg, -⟩
  · cases hr
  · have : g = r := Option.some.inj hr
    subst this
    exact ⟨hb, cur, hg⟩
theorem owns_lt {w : World} {base e n : Nat} {v : Value} {xs : List Value} (h : w.ownsRow base e 1 v n xs) {r : Nat} (hr : v.ownBlock = some r) : r < w.heap.size := by
  obtain ⟨-, C, hC⟩ := owns_block h r hr
  exact (Array.getElem?_eq_some_iff.1 hC).1
theorem owns_keep {w w' : World} {base e size n : Nat} {v : Value} {xs : List Value} (h : w.ownsRow base e size v n xs) (hb : ∀ r, v.ownBlock = some r → w'.heap[r]? = w.heap[r]?) : w'.ownsRow base e size v n xs := by
  obtain ⟨h1, h2⟩ := h
  refine ⟨h1, ?_⟩
  rcases h2 with h2 | ⟨g, cap, cur, a, b, hg, r⟩
  · exact .inl h2
  · exact .inr ⟨g, cap, cur, a, b, (hb g (by rw [a]; rfl)).trans hg, r⟩
theorem owns_form {w : World} {base e n : Nat} {v : Value} {xs : List Value} (h : w.ownsRow base e 1 v n xs) : ∃ A c, v = .slice A n c := by
  rcases h.2 with ⟨rfl, rfl⟩ | ⟨g, cap, cur, rfl, -⟩
  · exact ⟨none, 0, rfl⟩
  · exact ⟨_, _, rfl⟩
theorem owns_below {w w' : World} {base e size n : Nat} {v : Value} {xs : List Value} (h : w.ownsRow base e size v n xs) (hb : Below w.heap.size w w') : w'.ownsRow base e size v n xs := by
  obtain ⟨h1, h2⟩ := h
  refine ⟨h1, ?_⟩
  rcases h2 with h2 | ⟨g, cap, cur, a, b, hg, r⟩
  · exact .inl h2
  · exact .inr ⟨g, cap, cur, a, b, (hb.block _ (Array.getElem?_eq_some_iff.1 hg).1).trans hg, r⟩
theorem owns_base {w : World} {base base' e size n : Nat} {v : Value} {xs : List Value} (h : w.ownsRow base e size v n xs) (hb : base' ≤ base) : w.ownsRow base' e size v n xs := by
  obtain ⟨h1, h2⟩ := h
  refine ⟨h1, ?_⟩
  rcases h2 with h2 | ⟨g, cap, cur, a, b, r⟩
  · exact .inl h2
  · exact .inr ⟨g, cap, cur, a, Nat.le_trans hb b, r⟩
theorem sl_of_owns {w : World} {base e n : Nat} {v : Value} {xs : List Value} (h : w.ownsRow base e 1 v n xs) : Sl w v xs := by
  obtain ⟨hl, h⟩ := h
  rcases h with ⟨rfl, rfl⟩ | ⟨g, cap, cur, rfl, hbg, hg, hnc, hcm, hcs, htake⟩
  · exact ⟨none, 0, 0, rfl, by simpa using hl.symm, Nat.le_refl _, by simp [maxLen], fun h => absurd h (by omega)⟩
  · refine ⟨_, n, cap, rfl, by omega, hnc, hcm, fun _ => ⟨g, 0, rfl, fun j u hu => ?_⟩⟩
    rw [cell_of_row _ _ _ _ _ _ hg, Nat.zero_add]
    rw [← htake, List.getElem?_take] at hu
    split at hu
    · simpa using hu
    · cases hu
/-- v is a slice of numbers of the call's own -/
abbrev OwnI (base : Nat) (w : World) (v : Value) (xs : List Int) : Prop := w.ownsRow base 3 1 v xs.length (ints xs)
theorem OwnI.ints {base : Nat} {w : World} {v : Value} {xs : List Int} (h : OwnI base w v xs) (hf : Fits xs) : IntsAt w v xs := ⟨sl_of_owns h, hf⟩
theorem info3p : ∃ i, Try.prog.info? 3 = some i ∧ i.zero = some (.int .i64 0) ∧ i.size = 1 ∧ i.bytes = 8 := by
  have h : (Try.prog.info? 3).map (fun i => (i.zero, i.size, i.bytes)) = some (some (.int .i64 0), 1, 8) := by kernel_rfl
  cases hq : Try.prog.info? 3 with
  | none => simp [hq] at h
  | some i => simp [hq] at h; exact ⟨i, rfl, h⟩
theorem info24p : ∃ i, Try.prog.info? 23 = some i ∧ i.zero = some (.slice none 0 0) ∧ i.size = 1 ∧ i.bytes = 24 := by
  have h : (Try.prog.info? 23).map (fun i => (i.zero, i.size, i.bytes)) = some (some (.slice none 0 0), 1, 24) := by kernel_rfl
  cases hq : Try.prog.info? 23 with
  | none => simp [hq] at h
  | some i => simp [hq] at h; exact ⟨i, rfl, h⟩
theorem info25p : ∃ i, Try.prog.info? 24 = some i ∧ i.zero = some (.slice none 0 0) ∧ i.size = 1 ∧ i.bytes = 24 := by
  have h : (Try.prog.info? 24).map (fun i => (i.zero, i.size, i.bytes)) = some (some (.slice none 0 0), 1, 24) := by kernel_rfl
  cases hq : Try.prog.info? 24 with
  | none => simp [hq] at h
  | some i => simp [hq] at h; exact ⟨i, rfl, h⟩
/-- append of one element, which lies in a block just laid -/
theorem run_push {t ty e : TypeId} {z : Value} {bytes : Nat} (ht : Try.prog.underlying t = some (.slice e)) (hi : ∃ i, Try.prog.info? e = some i ∧ i.zero = some z ∧ i.size = 1 ∧ i.bytes = bytes) (hz : z.cells.size = 1) (hby : bytes ≤ 1000)
    (w : World) (base : Nat) (v : Value) (n : Nat) (xs : List Value) (hown : w.ownsRow base e 1 v n xs) (x : Value) (h1 : x.oneCell' = true) (hn : n ≤ 10000000) (hb : base ≤ w.heap.size) :
    ∃ A' c' w', (Builtin.append_ #[t, t] ty #[v, .slice (some ⟨w.heap.size, 0, none⟩) 1 1]).run Try.prog (w.alloc (.cells #[x] e)) = .ok (.slice A' (n + 1) c') w' ∧ w'.ownsRow base e 1 (.slice A' (n + 1) c') (n + 1) (xs ++ [x]) ∧
      w.grownBy w' v.ownBlock ∧ ((Value.slice A' (n + 1) c').ownBlock = v.ownBlock ∨ ∃ r, (Value.slice A' (n + 1) c').ownBlock = some r ∧ w.heap.size ≤ r) := by
  obtain ⟨i, hi, hz', hs, hb'⟩ := hi
  have hal : Below w.heap.size w (w.alloc (.cells #[x] e)) := (Below.refl _ _).alloc (Nat.le_refl _) _
  obtain ⟨v', w', hr, hown', hg, -, hw⟩ := run_append_own_at (P := Try.prog) (w.alloc (.cells #[x] e)) base t ty e i z 1 bytes ht hi hz' hs hb' hz (by omega) v n xs (owns_below hown hal) ⟨w.heap.size, 0, none⟩ 1 1 [x] rfl (cell_one_new _ _ _) (fun u hu => by simp at hu; rw [hu]; exact h1) (by unfold maxLen; omega)
    (by have : (n + 1) * bytes ≤ 10000001 * 1000 := Nat.mul_le_mul (by omega) hby
        omega) (by have := hal.size; omega)
  obtain ⟨A', c', rfl⟩ := owns_form hown'
  refine ⟨A', c', w', hr, hown', ?_, ?_⟩
  · have h2 := hg
    exact ⟨h2.os, h2.tape, h2.output, Nat.le_trans hal.size h2.size, fun k hk hne => (h2.block k (Nat.lt_of_lt_of_le hk hal.size) hne).trans (hal.block k hk)⟩
  · rcases hw with hw | hw
    · exact .inl hw
    · exact .inr ⟨_, hw, by simp⟩
theorem push_int (ty : TypeId) (t : TypeId) (ht : Try.prog.underlying t = some (.slice 3)) (w : World) (base : Nat) (v : Value) (xs : List Int) (h : OwnI base w v xs) (z : Int) (hx : xs.length ≤ 10000000) (hb : base ≤ w.heap.size) :
    ∃ A' c' w', (Builtin.append_ #[t, t] ty #[v, .slice (some ⟨w.heap.size, 0, none⟩) 1 1]).run Try.prog (w.alloc (.cells #[.int .i64 z] 3)) = .ok (.slice A' (xs.length + 1) c') w' ∧ OwnI base w' (.slice A' (xs.length + 1) c') (xs ++ [z]) ∧
      w.grownBy w' v.ownBlock ∧ ((Value.slice A' (xs.length + 1) c').ownBlock = v.ownBlock ∨ ∃ r, (Value.slice A' (xs.length + 1) c').ownBlock = some r ∧ w.heap.size ≤ r) := by
  obtain ⟨A', c', w', hr, ho, hg, hw⟩ := run_push (ty := ty) ht info3p rfl (by omega) w base v xs.length (ints xs) h (.int .i64 z) rfl hx hb
  refine ⟨A', c', w', hr, ?_, hg, hw⟩
  show w'.ownsRow base 3 1 _ (xs ++ [z]).length (ints (xs ++ [z]))
  rw [ints_app, List.length_append]
  exact ho
/-- the blocks of F are as they were -/
def Ag (F : Nat → Prop) (w w' : World) : Prop := ∀ k, F k → w'.heap[k]? = w.heap[k]?
theorem Ag.refl (F : Nat → Prop) (w : World) : Ag F w w := fun _ _ => rfl
theorem Ag.trans {F : Nat → Prop} {a b c : World} (h : Ag F a b) (k : Ag F b c) : Ag F a c := fun i hi => (k i hi).trans (h i hi)
theorem Ag.grown {F : Nat → Prop} {w w' : World} {row : Option Nat} (hg : w.grownBy w' row) (hF : ∀ k, F k → k < w.heap.size ∧ row ≠ some k) : Ag F w w' := fun k hk => hg.block k (hF k hk).1 (fun e => (hF k hk).2 e.symm)
theorem Ag.below {F : Nat → Prop} {w w' : World} (hb : Below w.heap.size w w') (hF : ∀ k, F k → k < w.heap.size) : Ag F w w' := fun k hk => hb.block k (hF k hk)
/-- u reads as x by the blocks of F -/
def IntsF (F : Nat → Prop) (w : World) (u : Value) (x : List Int) : Prop := ∀ w', Ag F w w' → IntsAt w' u x
theorem IntsF.at_ {F : Nat → Prop} {w : World} {u : Value} {x : List Int} (h : IntsF F w u x) : IntsAt w u x := h w (Ag.refl _ _)
theorem IntsF.keep {F : Nat → Prop} {w w' : World} {u : Value} {x : List Int} (h : IntsF F w u x) (ha : Ag F w w') : IntsF F w' u x := fun w'' h' => h w'' (ha.trans h')
theorem IntsF.mono {F G : Nat → Prop} {w : World} {u : Value} {x : List Int} (h : IntsF F w u x) (hg : ∀ k, F k → G k) : IntsF G w u x := fun w' h' => h w' fun k hk => h' k (hg k hk)
theorem IntsF.of_own {base : Nat} {w : World} {v : Value} {xs : List Int} (h : OwnI base w v xs) (hf : Fits xs) : IntsF (fun k => v.ownBlock = some k) w v xs := fun _w' hw => OwnI.ints (owns_keep h fun r hr => hw r hr) hf
theorem IntsF.of_at {w : World} {v : Value} {xs : List Int} (h : IntsAt w v xs) : IntsF (fun k => k < w.heap.size) w v xs := fun _w' hw => kept_ints _ _ _ _ (fun k hk => hw k hk) h
/-- the values vals read as the lists xs, by the blocks of F -/
def RowsF (F : Nat → Prop) (w : World) (vals : List Value) (xs : List (List Int)) : Prop := vals.length = xs.length ∧ ∀ j, j < xs.length → ∃ u, vals[j]? = some u ∧ IntsF F w u (xs.getD j [])
theorem RowsF.keep {F G : Nat → Prop} {w w' : World} {vals : List Value} {xs : List (List Int)} (h : RowsF F w vals xs) (ha : Ag F w w') (hg : ∀ k, F k → G k) : RowsF G w' vals xs :=
  ⟨h.1, fun j hj => let ⟨u, hu, hx⟩ := h.2 j hj; ⟨u, hu, (hx.keep ha).mono hg⟩⟩
theorem RowsF.nil (F : Nat → Prop) (w : World) : RowsF F w [] [] := ⟨rfl, fun j hj => absurd hj (by simp)⟩
theorem RowsF.snoc {F : Nat → Prop} {w : World} {vals : List Value} {xs : List (List Int)} (h : RowsF F w vals xs) {u : Value} {x : List Int} (hu : IntsF F w u x) : RowsF F w (vals ++ [u]) (xs ++ [x]) := by
  refine ⟨by simp [h.1], fun j hj => ?_⟩
  rcases Nat.lt_or_ge j xs.length with hl | hl
  · obtain ⟨u', h1, h2⟩ := h.2 j hl
    refine ⟨u', by rw [List.getElem?_append_left (by rw [h.1]; exact hl)]; exact h1, ?_⟩
    rw [show (xs ++ [x]).getD j [] = xs.getD j [] by simp [List.getD_eq_getElem?_getD, List.getElem?_append_left hl]]
    exact h2
  · obtain rfl : j = xs.length := by simp at hj; omega
    refine ⟨u, by rw [List.getElem?_append_right (by rw [h.1]; exact Nat.le_refl _), h.1]; simp, ?_⟩
    rw [show (xs ++ [x]).getD xs.length [] = x by simp [List.getD_eq_getElem?_getD]]
    exact hu
/-- v is a slice of rows of the call's own; its rows lie in F -/
def OwnT (e : TypeId) (base : Nat) (F : Nat → Prop) (w : World) (v : Value) (xs : List (List Int)) : Prop := ∃ vals, w.ownsRow base e 1 v xs.length vals ∧ RowsF F w vals xs
theorem OwnT.tab {e : TypeId} {base : Nat} {F : Nat → Prop} {w : World} {v : Value} {xs : List (List Int)} (h : OwnT e base F w v xs) : Tab w v xs := by
  obtain ⟨vals, h1, h2⟩ := h
  exact ⟨vals, sl_of_owns h1, h2.1, fun i hi => let ⟨u, hu, hx⟩ := h2.2 i hi; ⟨u, hu, hx.at_⟩⟩
theorem OwnT.form {e : TypeId} {base : Nat} {F : Nat → Prop} {w : World} {v : Value} {xs : List (List Int)} (h : OwnT e base F w v xs) : ∃ A c, v = .slice A xs.length c := let ⟨_, h1, _⟩ := h; owns_form h1
theorem OwnT.keep {e : TypeId} {base : Nat} {F G : Nat → Prop} {w w' : World} {v : Value} {xs : List (List Int)} (h : OwnT e base F w v xs) (hv : ∀ r, v.ownBlock = some r → w'.heap[r]? = w.heap[r]?) (ha : Ag F w w') (hg : ∀ k, F k → G k) : OwnT e base G w' v xs :=
  let ⟨vals, h1, h2⟩ := h; ⟨vals, owns_keep h1 hv, h2.keep ha hg⟩
theorem OwnT.below {e : TypeId} {base : Nat} {F : Nat → Prop} {w w' : World} {v : Value} {xs : List (List Int)} (h : OwnT e base F w v xs) (hb : Below w.heap.size w w') (hF : ∀ k, F k → k < w.heap.size) : OwnT e base F w' v xs :=
  let ⟨_vals, h1, _h2⟩ := h; h.keep (fun _r hr => hb.block _ (owns_lt h1 hr)) (Ag.below hb hF) fun _ h => h
/-- a row is appended -/
theorem push_row {t ty e : TypeId} (ht : Try.prog.underlying t = some (.slice e)) (hi : ∃ i, Try.prog.info? e = some i ∧ i.zero = some (.slice none 0 0) ∧ i.size = 1 ∧ i.bytes = 24) (w : World) (base : Nat) (F : Nat → Prop) (v : Value) (xs : List (List Int)) (h : OwnT e base F w v xs) (A : Option Addr) (n c : Nat) (x : List Int)
    (hx : IntsF F w (.slice A n c) x) (hF : ∀ k, F k → k < w.heap.size ∧ v.ownBlock ≠ some k) (hl : xs.length ≤ 10000000) (hb : base ≤ w.heap.size) :
    ∃ A' c' w', (Builtin.append_ #[t, t] ty #[v, .slice (some ⟨w.heap.size, 0, none⟩) 1 1]).run Try.prog (w.alloc (.cells #[.slice A n c] e)) = .ok (.slice A' (xs.length + 1) c') w' ∧ OwnT e base F w' (.slice A' (xs.length + 1) c') (xs ++ [x]) ∧
      w.grownBy w' v.ownBlock ∧ ((Value.slice A' (xs.length + 1) c').ownBlock = v.ownBlock ∨ ∃ r, (Value.slice A' (xs.length + 1) c').ownBlock = some r ∧ w.heap.size ≤ r) := by
  obtain ⟨vals, h1, h2⟩ := h
  obtain ⟨A', c', w', hr, ho, hg, hw⟩ := run_push (ty := ty) ht hi rfl (by omega) w base v xs.length vals h1 (.slice A n c) rfl hl hb
  refine ⟨A', c', w', hr, ⟨vals ++ [.slice A n c], ?_, ?_⟩, hg, hw⟩
  · rw [List.length_append]; exact ho
  · have ha := Ag.grown hg hF
    exact (h2.keep ha fun _ h => h).snoc (hx.keep ha)
end Go.Proofs
namespace Go.Proofs
open Go.RowKit Go.Shelf
/-- function g, bound to lb, answers p at the numbers that ok allows, in w and behind draws -/
def PredW (g : Nat) (lb : Array Value) (ok : Int → Prop) (p : Int → Bool) (w : World) : Prop :=
  ∀ (x : Int) (q : Nat), ok x → Calls Try.prog g (#[.int .i64 x] ++ lb) (w.drewN q) fun e w' => e = .returned (.bool (p x)) ∧ ∃ q', w' = w.drewN q'
def IdxSaid (b : Bool) (e : Ending) : Prop := ∃ r : Int, e = .returned (.int .i64 r) ∧ decide (0 ≤ r) = b
theorem any_false_of {p : Int → Bool} {xs : List Int} (h : ∀ j, j < xs.length → p (xs.getD j 0) = false) : xs.any p = false := by
  rw [List.any_eq_false]
  intro x hx
  obtain ⟨c, hc, rfl⟩ := List.mem_iff_getElem.1 hx
  have := h c hc
  rw [List.getD_eq_getElem?_getD, List.getElem?_eq_getElem hc] at this
  simpa using this
theorem any_true_of {p : Int → Bool} {xs : List Int} {k : Nat} (hk : k < xs.length) (h : p (xs.getD k 0) = true) : xs.any p = true := by
  rw [List.any_eq_true]
  rw [List.getD_eq_getElem?_getD, List.getElem?_eq_getElem hk] at h
  exact ⟨_, List.getElem_mem hk, h⟩
section
variable (g : Nat) (lb : Array Value) (ok : Int → Prop) (p : Int → Bool) (w : World) (eg : ∀ args w, (callFunc g args).run Try.prog w = .ok (.enter g args) w) (hp : PredW g lb ok p w) (v : Value) (xs : List Int) (h : IntsAt w v xs) (hok : ∀ x ∈ xs, ok x)
include eg hp h hok
set_option maxHeartbeats 400000 in
theorem idx117_any : Calls Try.prog 37 #[v, .func (.func g) #[] lb] w fun e w' => IdxSaid (xs.any p) e ∧ ∃ q, w' = w.drewN q := by
  obtain ⟨A, c, rfl, hc1, hc2, hc⟩ := h.open_
  have HC := Lib.hid hc
  have HP := Lib.hid hp
  have HK := Lib.hid hok
  clear hc hp h hok
  go_enter Try.func37, Try.ntmps37
  go_wp2_with fail
  go_loopw [5, 8] (fun _ i wr => ∃ k : Nat, k ≤ xs.length ∧ i = .int .i64 k ∧ (∀ j, j < k → p (xs.getD j 0) = false) ∧ ∃ q, wr = w.drewN q) (fun _ i _ => xs.length - (intOf i).toNat)
  case atStart => exact ⟨0, Nat.zero_le _, rfl, fun j hj => absurd hj (by omega), 0, rfl⟩
  case round =>
    obtain ⟨k, hk, rfl, hz, q, rfl⟩ := hrel
    have HZ := Lib.hid hz
    clear hz
    by_cases hlt : k < xs.length
    · obtain ⟨b, o, rfl, hcc⟩ := HC.out (by omega)
      have hck := hcc k hlt
      have hx : ok (xs.getD k 0) := HK.out _ (by rw [List.getD_eq_getElem?_getD, List.getElem?_eq_getElem hlt]; exact List.getElem_mem hlt)
      clear hcc
      have HA := Lib.hid (any_true_of (p := p) hlt)
      generalize hxe : xs.getD k 0 = x at *
      have HXE := Lib.hid hxe
      clear hxe
      have HX := Lib.hid hx
      clear hx
      have hcall := HP.out x q HX.out
      cases hq : p x with
      | true =>
        rw [hq] at hcall
        have HQ := Lib.hid hq
        clear hq
        have HCALL := Lib.hid hcall
        clear hcall
        go_wp2_with (go_at_fn g; (refine HCALL.out.mono ?_); rintro e w' ⟨rfl, q', rfl⟩)
        go_ret
        exact ⟨⟨k, rfl, by rw [HA.out HQ.out]; simp⟩, _, rfl⟩
      | false =>
        rw [hq] at hcall
        have HQ := Lib.hid hq
        clear hq
        have HCALL := Lib.hid hcall
        clear hcall
        go_wp2_with (go_at_fn g; (refine HCALL.out.mono ?_); rintro e w' ⟨rfl, q', rfl⟩)
        go_roundw
        case rel => exact ⟨k + 1, by omega, by go_num, all_succ HZ.out (by rw [HXE.out]; exact HQ.out), _, rfl⟩
        case measure => simp [intOf]; omega
    · obtain rfl : k = xs.length := by omega
      go_wp2_with fail
      go_ret
      exact ⟨⟨-1, rfl, by rw [any_false_of HZ.out]; rfl⟩, _, rfl⟩
theorem has74_any : Calls Try.prog 34 #[v, .func (.func g) #[] lb] w fun e w' => e = .returned (.bool (xs.any p)) ∧ ∃ q, w' = w.drewN q := by
  have hcon := Lib.hid (idx117_any g lb ok p w eg hp v xs h hok)
  clear hp h hok
  go_enter Try.func34, Try.ntmps34
  go_wp2_with (go_at_call 37; (refine hcon.out.mono ?_); rintro e w' ⟨⟨r, rfl, hr⟩, q, rfl⟩; have HR := Lib.hid hr; clear hr)
  go_ret
  exact ⟨ret_bool HR.out, _, rfl⟩
end
end Go.Proofs
namespace Go.Proofs
open Go.RowKit Go.Shelf Go.Proofs.Ct Go.Maps
def I64 (x : Int) : Prop := -9223372036854775808 ≤ x ∧ x ≤ 9223372036854775807
/-- block b is a map from the numbers of l to their places -/
def MapI (w : World) (b : Nat) (l : List Int) : Prop :=
  ∃ n D, n ≤ l.length ∧ w.ownsMap (H := Unit) Try.prog 3 (plainElem Try.prog 3) b n D ∧
    ∀ s, I64 s → Maps.has D (.int .i64 s) = l.contains s ∧ (s ∈ l → D.atKey (.int .i64 s) (.lit (.int .i64 0)) = .lit (.int .i64 (numOf l s)))
theorem key3 {s : Int} (h : I64 s) : keyOf Try.prog 3 (.int .i64 s) = some (.int .i64 s) := keyOf_int_mk Try.underlying3 (WalkArith.wf_i64 h)
theorem MapI.made (w : World) : MapI (w.alloc (.map #[] 0)) w.heap.size [] :=
  ⟨0, .map [], Nat.le_refl _, World.ownsMap_made _ _ _ _, fun s _ => ⟨by simp [Maps.has], fun h => by cases h⟩⟩
theorem MapI.kept {w w' : World} {b : Nat} {l : List Int} {row : Option Nat} (h : MapI w b l) (hg : w.grownBy w' row) (hne : row ≠ some b) : MapI w' b l := by
  obtain ⟨n, D, h1, h2, h3⟩ := h
  exact ⟨n, D, h1, h2.kept hg (Ne.symm hne), h3⟩
theorem MapI.lt {w : World} {b : Nat} {l : List Int} (h : MapI w b l) : b < w.heap.size := by
  obtain ⟨n, D, h1, h2, h3⟩ := h
  exact h2.lt
theorem MapI.isMapObj {w : World} {b : Nat} {l : List Int} (h : MapI w b l) : ∃ es clock, w.heap[b]? = some (.map es clock) := by
  obtain ⟨n, D, h1, ⟨es, clock, hb, -⟩, h3⟩ := h
  exact ⟨es, clock, hb⟩
section
variable {o : Oper} {a : Act} {w w' : World} {ops : Array Oper} {rest : List Oper} {Q : Exit → Act → World → Prop}
theorem wpList_selMu (T : TypeId) (x y z : Nat) {t : TypeId} {p : String} {af : Array Edge} {g : Option (Nat × Bool)} (h : wpList Try.prog ops Q (⟨none, .mapUpdate T (.tmp x) (.tmp y) (.tmp z), t, p, af, g⟩ :: rest) a w) : wpList Try.prog ops Q (⟨none, .mapUpdate T (.tmp x) (.tmp y) (.tmp z), t, p, af, g⟩ :: rest) a w := h
theorem r_mu {mv kv xv : Value} (T : TypeId) (m k x : Operand) (ho : o.op = .mapUpdate T m k x) (hm : a.eval m = mv) (hk : a.eval k = kv) (hx : a.eval x = xv) (hr : (Instr.mapUpdate T mv kv xv).run Try.prog w = .ok () w') : (execOp a.eval o).run Try.prog w = .ok .skip w' := by
  unfold execOp
  simp only [ho, hm, hk, hx, Sem.run_bind, hr, Result.andThen_ok]
  rfl
theorem r_look {mv kv v : Value} {c : Bool} (T : TypeId) (m k : Operand) (ho : o.op = .lookup T m k c) (hm : a.eval m = mv) (hk : a.eval k = kv) (hr : (Instr.lookup T mv kv c).run Try.prog w = .ok v w') : (execOp a.eval o).run Try.prog w = .ok (.value v) w' := by
  unfold execOp
  simp only [ho, hm, hk, Sem.run_bind, hr, Result.andThen_ok]
  rfl
theorem r_make {lv cv v : Value} (T : TypeId) (l c : Operand) (ho : o.op = .makeSlice T l c) (hl : a.eval l = lv) (hc : a.eval c = cv) (hr : (Instr.makeSlice T lv cv).run Try.prog w = .ok v w') : (execOp a.eval o).run Try.prog w = .ok (.value v) w' := by
  unfold execOp
  simp only [ho, hl, hc, Sem.run_bind, hr, Result.andThen_ok]
  rfl
end
/-- numbers, order and rows in memory -/
structure StdSt (bm : Nat) (F : Nat → Prop) (w0 wr : World) (vo vout : Value) (o : List Int) (rows : Tb) : Prop where
  below : Below w0.heap.size w0 wr
  bm0 : w0.heap.size ≤ bm
  map : MapI wr bm o
  ord : OwnI w0.heap.size wr vo o
  out : OwnT 23 w0.heap.size F wr vout rows
  fs : ∀ k, F k → w0.heap.size ≤ k ∧ k < wr.heap.size ∧ vo.ownBlock ≠ some k ∧ ∃ C, wr.heap[k]? = some (.cells C 3 (0, 0))
/-- .. and a row in the making -/
structure StdSt2 (bm : Nat) (F : Nat → Prop) (w0 wr : World) (vo vout vr : Value) (o : List Int) (rows : Tb) (x : List Int) : Prop where
  st : StdSt bm F w0 wr vo vout o rows
  row : OwnI w0.heap.size wr vr x
  ap : ∀ r, vr.ownBlock = some r → vo.ownBlock ≠ some r ∧ ¬ F r
theorem grown_cells {w w' : World} {row : Option Nat} (hg : w.grownBy w' row) {k : Nat} {ob : Obj} (h : w.heap[k]? = some ob) (hne : row ≠ some k) : w'.heap[k]? = some ob :=
  (hg.block k (Array.getElem?_eq_some_iff.1 h).1 (Ne.symm hne)).trans h
theorem OwnT.block {e : TypeId} {base : Nat} {F : Nat → Prop} {w : World} {v : Value} {xs : List (List Int)} (h : OwnT e base F w v xs) : ∀ r, v.ownBlock = some r → base ≤ r ∧ ∃ C, w.heap[r]? = some (.cells C e (0, 0)) := let ⟨_, h1, _⟩ := h; owns_block h1
/-- a block of the call's own, other than those of the order, the rows and the map, is written -/
theorem StdSt.grown {bm : Nat} {F : Nat → Prop} {w0 wr w' : World} {vo vout : Value} {o : List Int} {rows : Tb} {row : Option Nat} (h : StdSt bm F w0 wr vo vout o rows) (hg : wr.grownBy w' row)
    (h0 : ∀ r, row = some r → w0.heap.size ≤ r ∧ vo.ownBlock ≠ some r ∧ ¬ F r ∧ vout.ownBlock ≠ some r ∧ r ≠ bm) : StdSt bm F w0 w' vo vout o rows := by
  have hob := owns_block h.ord
  have hub := h.out.block
  refine ⟨h.below.grown hg h.below.size (fun k hk => (h0 k hk).1), h.bm0, h.map.kept hg (fun e => (h0 _ e).2.2.2.2 rfl), owns_keep h.ord fun r hr => ?_, h.out.keep (fun r hr => ?_) (Ag.grown hg fun k hk => ⟨(h.fs k hk).2.1, fun e => (h0 _ e).2.2.1 hk⟩) (fun _ h => h), fun k hk => ?_⟩
  · exact hg.block r (owns_lt h.ord hr) (fun e => (h0 r e.symm).2.1 hr)
  · obtain ⟨-, C, hC⟩ := hub r hr
    exact hg.block r (Array.getElem?_eq_some_iff.1 hC).1 (fun e => (h0 r e.symm).2.2.2.1 hr)
  · obtain ⟨h1, h2, h3, C, hC⟩ := h.fs k hk
    exact ⟨h1, Nat.lt_of_lt_of_le h2 hg.size, h3, C, grown_cells hg hC (fun e => (h0 _ e).2.2.1 hk)⟩
/-- a row begins -/
theorem StdSt.start {bm : Nat} {F : Nat → Prop} {w0 wr : World} {vo vout : Value} {o : List Int} {rows : Tb} (h : StdSt bm F w0 wr vo vout o rows) (g : Nat) (hg16 : g ≤ 16) :
    ∃ A c w', (Instr.makeSlice 23 (.int .i64 0) (.int .i64 (2 * (g : Int)))).run Try.prog wr = .ok (.slice A 0 c) w' ∧ StdSt2 bm F w0 w' vo vout (.slice A 0 c) o rows [] := by
  obtain ⟨i, hi, hz, hs, hb⟩ := info3p
  obtain ⟨w', hr, ho, hg⟩ := run_make_own (P := Try.prog) wr w0.heap.size 23 3 i (.int .i64 0) 1 Try.underlying23 hi hz hs .i64 .i64 (2 * g) (by rw [hb]; omega) (by unfold maxLen; omega) h.below.size
  have hr' : (Instr.makeSlice 23 (.int .i64 0) (.int .i64 (2 * (g : Int)))).run Try.prog wr = .ok (.slice (some ⟨wr.heap.size, 0, none⟩) 0 (2 * g)) w' := by
    rw [show (2 * (g : Int)) = ((2 * g : Nat) : Int) by omega]
    exact hr
  refine ⟨_, _, w', hr', h.grown hg (fun r hr => by cases hr), ho, fun r hr => ?_⟩
  have hr2 : wr.heap.size = r := Option.some.inj hr
  subst hr2
  refine ⟨fun e => ?_, fun e => ?_⟩
  · exact absurd (owns_lt h.ord e) (Nat.lt_irrefl _)
  · exact absurd (h.fs _ e).2.1 (Nat.lt_irrefl _)
/-- a number is laid behind the row -/
theorem StdSt2.add {bm : Nat} {F : Nat → Prop} {w0 wr : World} {vo vout vr : Value} {o : List Int} {rows : Tb} {x : List Int} (h : StdSt2 bm F w0 wr vo vout vr o rows x) (z : Int) (hx : x.length ≤ 8000000) :
    ∃ A' c' w', (Builtin.append_ #[23, 23] 23 #[vr, .slice (some ⟨wr.heap.size, 0, none⟩) 1 1]).run Try.prog (wr.alloc (.cells #[.int .i64 z] 3)) = .ok (.slice A' (x.length + 1) c') w' ∧ StdSt2 bm F w0 w' vo vout (.slice A' (x.length + 1) c') o rows (x ++ [z]) := by
  obtain ⟨A', c', w', hr, ho, hg, hw⟩ := push_int 23 23 Try.underlying23 wr w0.heap.size vr x h.row z (by omega) h.st.below.size
  have hrb := owns_block h.row
  have hst : StdSt bm F w0 w' vo vout o rows := h.st.grown hg fun r hr => by
    obtain ⟨h1, C, hC⟩ := hrb r hr
    refine ⟨h1, (h.ap r hr).1, (h.ap r hr).2, fun e => ?_, fun e => ?_⟩
    · obtain ⟨-, C', hC'⟩ := h.st.out.block r e
      rw [hC] at hC'; cases hC'
    · subst e
      obtain ⟨es, cl, hm⟩ := h.st.map.isMapObj
      rw [hC] at hm; cases hm
  refine ⟨A', c', w', hr, hst, ho, fun r hr => ?_⟩
  rcases hw with hw | ⟨r', hr', hge⟩
  · rw [hw] at hr
    exact h.ap r hr
  · have e : r' = r := by rw [hr'] at hr; exact Option.some.inj hr
    subst e
    exact ⟨fun e => absurd (owns_lt h.st.ord e) (by omega), fun e => absurd (h.st.fs _ e).2.1 (by omega)⟩
/-- the row is laid behind the rows -/
theorem StdSt2.done {bm : Nat} {F : Nat → Prop} {w0 wr : World} {vo vout : Value} {A : Option Addr} {c : Nat} {o : List Int} {rows : Tb} {x : List Int} (h : StdSt2 bm F w0 wr vo vout (.slice A x.length c) o rows x) (hf : Fits x) (hl : rows.length ≤ 8000000) :
    ∃ A' c' w', (Builtin.append_ #[49, 49] 49 #[vout, .slice (some ⟨wr.heap.size, 0, none⟩) 1 1]).run Try.prog (wr.alloc (.cells #[.slice A x.length c] 23)) = .ok (.slice A' (rows.length + 1) c') w' ∧
      StdSt bm (fun k => F k ∨ (Value.slice A x.length c).ownBlock = some k) w0 w' vo (.slice A' (rows.length + 1) c') o (rows ++ [x]) := by
  have hub := h.st.out.block
  have hrb := owns_block h.row
  have hob := owns_block h.st.ord
  have hF2 : ∀ k, (F k ∨ (Value.slice A x.length c).ownBlock = some k) → k < wr.heap.size ∧ vout.ownBlock ≠ some k := fun k hk => by
    rcases hk with hk | hk
    · obtain ⟨h1, h2, h3, C, hC⟩ := h.st.fs k hk
      refine ⟨h2, fun e => ?_⟩
      obtain ⟨-, C', hC'⟩ := hub k e
      rw [hC] at hC'; cases hC'
    · obtain ⟨h1, C, hC⟩ := hrb k hk
      refine ⟨(Array.getElem?_eq_some_iff.1 hC).1, fun e => ?_⟩
      obtain ⟨-, C', hC'⟩ := hub k e
      rw [hC] at hC'; cases hC'
  obtain ⟨A', c', w', hr, ho', hg, hw⟩ := push_row (ty := 49) Try.underlying49 info24p wr w0.heap.size (fun k => F k ∨ (Value.slice A x.length c).ownBlock = some k) vout rows (h.st.out.keep (fun _ _ => rfl) (Ag.refl _ _) (fun k hk => .inl hk)) A x.length c x ((IntsF.of_own h.row hf).mono fun k hk => .inr hk) hF2 (by omega) h.st.below.size
  have hne : ∀ {k : Nat} {C : Array Value} {fr : Nat × Nat}, wr.heap[k]? = some (.cells C 3 fr) → vout.ownBlock ≠ some k := fun {k C fr} hc e => by
    obtain ⟨-, C', hC'⟩ := hub k e
    rw [hc] at hC'; cases hC'
  refine ⟨A', c', w', hr, ⟨h.st.below.grown hg h.st.below.size (fun k hk => (hub k hk).1), h.st.bm0, h.st.map.kept hg (fun e => ?_), owns_keep h.st.ord fun r hr => ?_, ho', fun k hk => ?_⟩⟩
  · obtain ⟨es, cl, hm⟩ := h.st.map.isMapObj
    obtain ⟨-, C', hC'⟩ := hub bm e
    rw [hm] at hC'; cases hC'
  · obtain ⟨-, C, hC⟩ := hob r hr
    exact (grown_cells hg hC (hne hC)).trans hC.symm
  · have h2 := (hF2 k hk).1
    rcases hk with hk | hk
    · obtain ⟨h1, _, h3, C, hC⟩ := h.st.fs k hk
      exact ⟨h1, Nat.lt_of_lt_of_le h2 hg.size, h3, C, grown_cells hg hC (hne hC)⟩
    · obtain ⟨h1, C, hC⟩ := hrb k hk
      exact ⟨h1, Nat.lt_of_lt_of_le h2 hg.size, (h.ap k hk).1, C, grown_cells hg hC (hne hC)⟩
end Go.Proofs
