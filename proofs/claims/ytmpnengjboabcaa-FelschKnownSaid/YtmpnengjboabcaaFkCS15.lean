/- Orders of groups by a record of an enumeration: how a record is checked, and what it proves; The laws' presentations: they are valid; what Enumerate answers for them; The walk of CosetHolds; Calls as operations of a drawn region; what Enumerate answers, by blocks; The cosets of Felsch's strategy: scan; The reference of Felsch's strategy: rotations, words; As T2's law; the fact of an operation without a slot (a store) may name the value of a slot that it takes. -/
import Derived.Test.YtmpnengjboabcaaFkCS9
import Derived.Test.YtmpnengjboabcaaFkCS14
import Derived.Test.YtmpnengjboabcaaFkCS13
import Derived.Test.YtmpnengjboabcaaFkCS8
import Derived.Test.YtmpnengjboabcaaFkCS5
import Derived.Test.YtmpnengjboabcaaFkCS10
import Derived.Test.YtmpnengjboabcaaFkCS6
namespace Go.Proofs.Ct
/-- rows of numbers of ten bits -/
def gt (a k : Nat) : Nat := Nat.mod (Nat.shiftRight a (Nat.mul 10 k)) 1024
def pt (a k v : Nat) : Nat := Nat.add a (Nat.shiftLeft v (Nat.mul 10 k))
theorem gt_eq (a k : Nat) : gt a k = a / 1024 ^ k % 1024 := by
  show (a >>> (10 * k)) % 1024 = _
  rw [Nat.shiftRight_eq_div_pow, Nat.pow_mul]
theorem pt_eq (a k v : Nat) : pt a k v = a + v * 1024 ^ k := by
  show a + v <<< (10 * k) = _
  rw [Nat.shiftLeft_eq, Nat.pow_mul]
theorem gt_pt {a k v : Nat} (h0 : gt a k = 0) (hv : v < 1024) (j : Nat) : gt (pt a k v) j = if j = k then v else gt a j := by
  rw [gt_eq] at h0
  rw [gt_eq, pt_eq, gt_eq]
  have hk : 0 < 1024 ^ k := Nat.pow_pos (by omega)
  rcases Nat.lt_trichotomy j k with h | h | h
  · rw [if_neg (by omega)]
    obtain ⟨d, rfl⟩ := Nat.exists_eq_add_of_lt h
    have hj : 0 < 1024 ^ j := Nat.pow_pos (by omega)
    have e : v * 1024 ^ (j + d + 1) = (v * 1024 ^ d * 1024) * 1024 ^ j := by
      rw [Nat.pow_succ, Nat.pow_add]
      simp only [Nat.mul_comm, Nat.mul_left_comm]
    rw [e, Nat.add_mul_div_right _ _ hj, Nat.add_mul_mod_self_right]
  · subst h
    rw [if_pos rfl, Nat.add_mul_div_right _ _ hk, Nat.add_mod, h0, Nat.zero_add, Nat.mod_mod, Nat.mod_eq_of_lt hv]
  · rw [if_neg (by omega)]
    obtain ⟨d, rfl⟩ := Nat.exists_eq_add_of_lt h
    have e : 1024 ^ (k + d + 1) = 1024 ^ k * (1024 * 1024 ^ d) := by
      rw [Nat.pow_succ, Nat.pow_add, Nat.mul_assoc, Nat.mul_comm (1024 ^ d)]
    have h1 : (a + v * 1024 ^ k) / 1024 ^ k = a / 1024 ^ k + v := Nat.add_mul_div_right _ _ hk
    have h2 : (a / 1024 ^ k + v) / 1024 = a / 1024 ^ k / 1024 := by omega
    rw [e, ← Nat.div_div_eq_div_mul, ← Nat.div_div_eq_div_mul, ← Nat.div_div_eq_div_mul, ← Nat.div_div_eq_div_mul, h1, h2]
theorem nbeq (a b : Nat) : (Nat.beq a b = true) = (a = b) := propext ⟨Nat.eq_of_beq_eq_true, fun h => by rw [h]; exact Nat.beq_refl b⟩
/-- the record's state: how many names, the edges, the names that are other names -/
structure Cs where
  n : Nat
  E : Nat
  A : Nat
def rpC (A : Nat) : Nat → Nat → Nat
  | 0, x => x
  | k + 1, x => match gt A x with
    | 0 => x
    | y + 1 => rpC A k y
def lkC (s : Cs) (x c : Nat) : Nat := match gt s.E (Nat.add (Nat.mul 8 x) c) with
  | 0 => 0
  | y + 1 => Nat.succ (rpC s.A 20 y)
def wkC (s : Cs) : List Nat → Nat → Nat
  | [], x => Nat.succ x
  | c :: w, x => match lkC s x c with
    | 0 => 0
    | y + 1 => wkC s w y
def alC (s : Cs) (a b : Nat) : Cs := cond (Nat.beq (gt s.A b) 0 && Nat.blt a s.n && Nat.blt b s.n) ⟨s.n, s.E, pt s.A b (Nat.succ a)⟩ s
def algC (s : Cs) (a b : Nat) : Cs := cond (Nat.beq a b) s (cond (Nat.blt a b) (alC s a b) (alC s b a))
def haC (s : Cs) (u c v : Nat) : Cs := match lkC s u c with
  | y + 1 => algC s y v
  | 0 => ⟨s.n, pt s.E (Nat.add (Nat.mul 8 u) c) (Nat.succ v), s.A⟩
def lnC (s : Cs) (u c v : Nat) : Cs := haC (haC s u c v) v (flp c) u
def dfC (m : Nat) (s : Cs) (r c : Nat) : Cs := match lkC s r c with
  | 0 => cond (Nat.blt r s.n && Nat.blt c m && Nat.blt s.n 1000) (lnC ⟨Nat.succ s.n, s.E, s.A⟩ r c s.n) s
  | _ + 1 => s
def bkC (w : List Nat) : List Nat := (w.map flp).reverse
def reC (rs : List (List Nat)) (s : Cs) (r k i : Nat) : Cs := cond (Nat.blt r s.n && Nat.blt k rs.length && Nat.blt i (rs.getD k []).length)
  (match wkC s ((rs.getD k []).take i) r with
  | 0 => s
  | u + 1 => match wkC s (bkC ((rs.getD k []).drop (i + 1))) r with
    | 0 => s
    | v + 1 => lnC s u ((rs.getD k []).getD i 0) v) s
def cpC (s : Cs) (x c : Nat) : Cs := match gt s.E (Nat.add (Nat.mul 8 x) c) with
  | 0 => s
  | d + 1 => cond (Nat.blt c 8) (lnC s (rpC s.A 20 x) c (rpC s.A 20 d)) s
def stC (m : Nat) (rs : List (List Nat)) (i : Nat) (s : Cs) : Cs := match Nat.mod i 4 with
  | 0 => dfC m s (Nat.div i 32) (Nat.mod (Nat.div i 4) 8)
  | 1 => reC rs s (Nat.div i 1024) (Nat.mod (Nat.div i 128) 8) (Nat.mod (Nat.div i 4) 32)
  | _ => cpC s (Nat.div i 32) (Nat.mod (Nat.div i 4) 8)
def runC (m : Nat) (rs : List (List Nat)) : Nat → Nat → Cs → Cs
  | 0, _, s => s
  | k + 1, log, s => runC m rs k (Nat.shiftRight log 20) (stC m rs (Nat.mod log 1048576) s)
/-- what holds of a record's state -/
structure OkC (g : Nat) {α : Type} (D : α → Prop) (act : α → Nat → α) (p0 : α) (s : Cs) (f : Nat → α) : Prop where
  n1 : 1 ≤ s.n
  n2 : s.n ≤ 1000
  f0 : f 0 = p0
  dom : ∀ x, x < s.n → D (f x)
  e : ∀ x c y, c < 8 → gt s.E (8 * x + c) = y + 1 → x < s.n ∧ y < s.n ∧ c < 2 * g ∧ act (f x) c = f y
  a : ∀ x y, gt s.A x = y + 1 → x < s.n ∧ y < s.n ∧ f x = f y
section
variable {g : Nat} {rels : List W} {α : Type} {D : α → Prop} {act : α → Nat → α} {p0 : α} {s : Cs} {f : Nat → α}
theorem OkC.rp (h : OkC g D act p0 s f) : ∀ (k : Nat) {x : Nat}, x < s.n → rpC s.A k x < s.n ∧ f (rpC s.A k x) = f x
  | 0, x, hx => ⟨hx, rfl⟩
  | k + 1, x, hx => by
    rw [rpC]
    cases hg : gt s.A x with
    | zero => exact ⟨hx, rfl⟩
    | succ y =>
      obtain ⟨h1, h2, h3⟩ := h.a x y hg
      obtain ⟨h4, h5⟩ := h.rp k h2
      exact ⟨h4, h5.trans h3.symm⟩
theorem OkC.lk (h : OkC g D act p0 s f) {x c y : Nat} (hc : c < 8) (e : lkC s x c = y + 1) : x < s.n ∧ y < s.n ∧ c < 2 * g ∧ act (f x) c = f y := by
  unfold lkC at e
  cases hg : gt s.E (Nat.add (Nat.mul 8 x) c) with
  | zero => rw [hg] at e; cases e
  | succ z =>
    rw [hg] at e
    obtain ⟨h1, h2, h3, h4⟩ := h.e x c z hc hg
    obtain ⟨h5, h6⟩ := h.rp 20 h2
    have e' : rpC s.A 20 z = y := Nat.succ.inj e
    rw [e'] at h5 h6
    exact ⟨h1, h5, h3, by rw [h4, h6]⟩
theorem lkC_zero {x c : Nat} (e : lkC s x c = 0) : gt s.E (8 * x + c) = 0 := by
  unfold lkC at e
  show gt s.E (Nat.add (Nat.mul 8 x) c) = 0
  cases hg : gt s.E (Nat.add (Nat.mul 8 x) c) with
  | zero => rfl
  | succ z => rw [hg] at e; cases e
theorem OkC.al (h : OkC g D act p0 s f) {a b : Nat} (e : f a = f b) : OkC g D act p0 (alC s a b) f := by
  unfold alC
  cases hc : (Nat.beq (gt s.A b) 0 && Nat.blt a s.n && Nat.blt b s.n) with
  | false => exact h
  | true =>
    simp only [Bool.and_eq_true, nbeq, Nat.blt_eq] at hc
    have hn := h.n2
    refine ⟨h.n1, h.n2, h.f0, h.dom, h.e, fun x y hx => ?_⟩
    show x < s.n ∧ y < s.n ∧ f x = f y
    have hx' : gt (pt s.A b (a + 1)) x = y + 1 := hx
    rw [gt_pt hc.1.1 (by omega)] at hx'
    split at hx'
    · rename_i e1
      have : a = y := by omega
      rw [e1, ← this]
      exact ⟨hc.2, hc.1.2, e.symm⟩
    · exact h.a x y hx'
theorem OkC.alg (h : OkC g D act p0 s f) {a b : Nat} (e : f a = f b) : OkC g D act p0 (algC s a b) f := by
  unfold algC
  cases Nat.beq a b with
  | true => exact h
  | false =>
    cases Nat.blt a b with
    | true => exact h.al e
    | false => exact h.al e.symm
theorem flp8 {c : Nat} (h : c < 8) : flp c < 8 := flp_lt2 (g := 4) h
theorem key_inj {x c y d : Nat} (hc : c < 8) (hd : d < 8) (e : 8 * x + c = 8 * y + d) : x = y ∧ c = d := by omega
theorem OkC.put (h : OkC g D act p0 s f) {u v c : Nat} (hu : u < s.n) (hv : v < s.n) (hc : c < 2 * g) (hc8 : c < 8) (e : act (f u) c = f v) (h1 : gt s.E (8 * u + c) = 0) :
    OkC g D act p0 ⟨s.n, pt s.E (8 * u + c) (v + 1), s.A⟩ f := by
  have hn := h.n2
  have e1 := gt_pt h1 (show v + 1 < 1024 by omega)
  refine ⟨h.n1, h.n2, h.f0, h.dom, fun x k y hk hx => ?_, h.a⟩
  have hx' : gt (pt s.E (8 * u + c) (v + 1)) (8 * x + k) = y + 1 := hx
  rw [e1] at hx'
  show x < s.n ∧ y < s.n ∧ k < 2 * g ∧ act (f x) k = f y
  split at hx'
  · rename_i e2
    obtain ⟨rfl, rfl⟩ := key_inj hk hc8 e2
    have : y = v := by omega
    rw [this]
    exact ⟨hu, hv, hc, e⟩
  · exact h.e x k y hk hx'
theorem n_al (s : Cs) (a b : Nat) : (alC s a b).n = s.n := by unfold alC; cases (Nat.beq (gt s.A b) 0 && Nat.blt a s.n && Nat.blt b s.n) <;> rfl
theorem n_alg (s : Cs) (a b : Nat) : (algC s a b).n = s.n := by
  unfold algC
  cases Nat.beq a b with
  | true => rfl
  | false =>
    cases Nat.blt a b with
    | true => exact n_al s a b
    | false => exact n_al s b a
theorem n_ha (s : Cs) (u c v : Nat) : (haC s u c v).n = s.n := by
  unfold haC
  cases lkC s u c with
  | zero => rfl
  | succ y => exact n_alg s y v
theorem OkC.ha (h : OkC g D act p0 s f) {u v c : Nat} (hu : u < s.n) (hv : v < s.n) (hc : c < 2 * g) (hc8 : c < 8) (e : act (f u) c = f v) : OkC g D act p0 (haC s u c v) f := by
  unfold haC
  cases h1 : lkC s u c with
  | succ y =>
    obtain ⟨-, -, -, h2⟩ := h.lk hc8 h1
    exact h.alg (by rw [← h2, e])
  | zero => exact h.put hu hv hc hc8 e (lkC_zero h1)
theorem OkC.ln (h : OkC g D act p0 s f) (hM : Mdl g rels D act) {u v c : Nat} (hu : u < s.n) (hv : v < s.n) (hc : c < 2 * g) (hc8 : c < 8) (e : act (f u) c = f v) : OkC g D act p0 (lnC s u c v) f := by
  have h1 := h.ha hu hv hc hc8 e
  have hn := n_ha s u c v
  exact h1.ha (by rw [hn]; exact hv) (by rw [hn]; exact hu) (flp_lt2 hc) (flp8 hc8) (by rw [← e]; exact hM.inv _ _ (h.dom u hu) hc)
theorem OkC.df (h : OkC g D act p0 s f) (hM : Mdl g rels D act) (hg : 2 * g ≤ 8) (r c : Nat) : ∃ f', OkC g D act p0 (dfC (2 * g) s r c) f' := by
  unfold dfC
  cases h1 : lkC s r c with
  | succ y => exact ⟨f, h⟩
  | zero =>
    simp only
    cases hc : (Nat.blt r s.n && Nat.blt c (2 * g) && Nat.blt s.n 1000) with
    | false => exact ⟨f, h⟩
    | true =>
      simp only [Bool.and_eq_true, Nat.blt_eq] at hc
      obtain ⟨⟨h2, h3⟩, h4⟩ := hc
      have hn1 := h.n1
      refine ⟨fun x => if x = s.n then act (f r) c else f x, ?_⟩
      have h5 : OkC g D act p0 ⟨s.n + 1, s.E, s.A⟩ (fun x => if x = s.n then act (f r) c else f x) := by
        refine ⟨by show 1 ≤ s.n + 1; omega, by show s.n + 1 ≤ 1000; omega, by rw [if_neg (by omega)]; exact h.f0, fun x hx => ?_, fun x k y hk hx => ?_, fun x y hx => ?_⟩
        · have hx' : x < s.n + 1 := hx
          split
          · exact hM.cl _ _ (h.dom r h2) h3
          · exact h.dom x (by omega)
        · obtain ⟨a, b, c', d⟩ := h.e x k y hk hx
          rw [if_neg (by omega), if_neg (by omega)]
          exact ⟨Nat.lt_succ_of_lt a, Nat.lt_succ_of_lt b, c', d⟩
        · obtain ⟨a, b, c'⟩ := h.a x y hx
          rw [if_neg (by omega), if_neg (by omega)]
          exact ⟨Nat.lt_succ_of_lt a, Nat.lt_succ_of_lt b, c'⟩
      exact h5.ln hM (u := r) (v := s.n) (c := c) (by show r < s.n + 1; omega) (by show s.n < s.n + 1; omega) h3 (by omega) (by rw [if_neg (by omega), if_pos rfl])
theorem actW_cols (w : W) : ∀ p : α, actW act p w = (w.map col).foldl act p := by
  induction w with
  | nil => intro p; rfl
  | cons l w ih => intro p; exact ih _
theorem OkC.wk (h : OkC g D act p0 s f) (hg : 2 * g ≤ 8) : ∀ {w : List Nat} {x y : Nat}, (∀ c ∈ w, c < 2 * g) → x < s.n → wkC s w x = y + 1 → y < s.n ∧ w.foldl act (f x) = f y := by
  intro w
  induction w with
  | nil =>
    intro x y _ hx e
    have e' : x = y := Nat.succ.inj e
    rw [← e']; exact ⟨hx, rfl⟩
  | cons c w ih =>
    intro x y hw hx e
    rw [wkC] at e
    have hc := hw c (List.mem_cons_self ..)
    cases h1 : lkC s x c with
    | zero => rw [h1] at e; cases e
    | succ z =>
      rw [h1] at e
      obtain ⟨-, h2, -, h3⟩ := h.lk (by omega) h1
      rw [List.foldl_cons, h3]
      exact ih (fun c hc => hw c (List.mem_cons_of_mem _ hc)) h2 e
theorem fold_bk (hM : Mdl g rels D act) : ∀ {w : List Nat} {p : α}, (∀ c ∈ w, c < 2 * g) → D p → (bkC w).foldl act (w.foldl act p) = p := by
  intro w
  induction w with
  | nil => intro p _ _; rfl
  | cons c w ih =>
    intro p hw hp
    have hc := hw c (List.mem_cons_self ..)
    have e : bkC (c :: w) = bkC w ++ [flp c] := by simp [bkC]
    rw [e, List.foldl_append, List.foldl_cons (l := w), List.foldl_cons, ih (fun c hc => hw c (List.mem_cons_of_mem _ hc)) (hM.cl _ _ hp hc)]
    exact hM.inv _ _ hp hc
theorem mem_bk {w : List Nat} (h : ∀ c ∈ w, c < 2 * g) : ∀ c ∈ bkC w, c < 2 * g := fun c hc => by
  unfold bkC at hc
  obtain ⟨d, hd, rfl⟩ := List.mem_map.1 (List.mem_reverse.1 hc)
  exact flp_lt2 (h d hd)
theorem OkC.re (h : OkC g D act p0 s f) (hM : Mdl g rels D act) (hg : 2 * g ≤ 8) {rs : List (List Nat)} (hrs : rs = rels.map fun w => w.map col) (hr : ∀ j, j < rels.length → LOk g (rels.getD j [])) (r k i : Nat) : OkC g D act p0 (reC rs s r k i) f := by
  unfold reC
  cases hc : (Nat.blt r s.n && Nat.blt k rs.length && Nat.blt i (rs.getD k []).length) with
  | false => exact h
  | true =>
    simp only [Bool.and_eq_true, Nat.blt_eq] at hc
    obtain ⟨⟨h1, h2⟩, h3⟩ := hc
    simp only [cond_true]
    have hk : k < rels.length := by rw [hrs, List.length_map] at h2; exact h2
    have hw : rs.getD k [] = (rels.getD k []).map col := by rw [hrs]; simp [List.getD_eq_getElem?_getD, hk]
    have hall : ∀ c ∈ rs.getD k [], c < 2 * g := fun c hc => by
      rw [hw] at hc
      obtain ⟨l, hl, rfl⟩ := List.mem_map.1 hc
      exact col_ltL (hr k hk l hl)
    have hcl : (rs.getD k []).foldl act (f r) = f r := by
      rw [hw, ← actW_cols]
      exact hM.rel _ k (h.dom r h1) hk
    generalize rs.getD k [] = w at *
    cases h4 : wkC s (w.take i) r with
    | zero => exact h
    | succ u =>
      simp only
      cases h5 : wkC s (bkC (w.drop (i + 1))) r with
      | zero => exact h
      | succ v =>
        simp only
        have hd : ∀ c ∈ w.drop (i + 1), c < 2 * g := fun c hc => hall c (List.mem_of_mem_drop hc)
        obtain ⟨h6, h7⟩ := h.wk hg (fun c hc => hall c (List.mem_of_mem_take hc)) h1 h4
        obtain ⟨h8, h9⟩ := h.wk hg (mem_bk hd) h1 h5
        have hci : w.getD i 0 < 2 * g := by
          rw [List.getD_eq_getElem?_getD, List.getElem?_eq_getElem h3]
          exact hall _ (List.getElem_mem h3)
        refine h.ln hM h6 h8 hci (by omega) ?_
        have e : w = w.take i ++ w.getD i 0 :: w.drop (i + 1) := by
          rw [List.getD_eq_getElem?_getD, List.getElem?_eq_getElem h3]
          simp
        rw [e, List.foldl_append, List.foldl_cons, h7] at hcl
        have hD1 : D (act (f u) (w.getD i 0)) := hM.cl _ _ (h.dom u h6) hci
        rw [← fold_bk hM hd hD1, hcl, h9]
theorem OkC.cp (h : OkC g D act p0 s f) (hM : Mdl g rels D act) (x c : Nat) : OkC g D act p0 (cpC s x c) f := by
  unfold cpC
  cases h1 : gt s.E (Nat.add (Nat.mul 8 x) c) with
  | zero => exact h
  | succ d =>
    simp only
    cases h2 : Nat.blt c 8 with
    | false => exact h
    | true =>
      rw [Nat.blt_eq] at h2
      obtain ⟨h3, h4, h5, h6⟩ := h.e x c d h2 h1
      obtain ⟨h7, h8⟩ := h.rp 20 h3
      obtain ⟨h9, h10⟩ := h.rp 20 h4
      exact h.ln hM h7 h9 h5 h2 (by rw [h8, h10]; exact h6)
theorem OkC.run (hM : Mdl g rels D act) (hg : 2 * g ≤ 8) {rs : List (List Nat)} (hrs : rs = rels.map fun w => w.map col) (hr : ∀ j, j < rels.length → LOk g (rels.getD j [])) : ∀ (k log : Nat) {s : Cs} {f : Nat → α}, OkC g D act p0 s f → ∃ f', OkC g D act p0 (runC (2 * g) rs k log s) f'
  | 0, _, _, f, h => ⟨f, h⟩
  | k + 1, log, s, f, h => by
    rw [runC]
    have h1 : ∃ f', OkC g D act p0 (stC (2 * g) rs (Nat.mod log 1048576) s) f' := by
      unfold stC
      split
      · exact h.df hM hg _ _
      · exact ⟨f, h.re hM hg hrs hr _ _ _⟩
      · exact ⟨f, h.cp hM _ _⟩
    obtain ⟨f1, h2⟩ := h1
    exact OkC.run hM hg hrs hr k _ h2
end
/-- the regular table of a group: it satisfies the relators, and maps onto whatever does -/
def Reg (g : Nat) (rels : List W) (n : Nat) : Prop := ∃ act : Nat → Nat → Nat, 1 ≤ n ∧ n ≤ 1000 ∧ Mdl g rels (fun x => x < n) act ∧ (∀ i, 0 < i → i < n → ∃ p c, p < i ∧ c < 2 * g ∧ act p c = i) ∧
  ∀ {α : Type} {D : α → Prop} {act' : α → Nat → α} {p0 : α}, Mdl g rels D act' → D p0 → ∃ φ : Nat → α, φ 0 = p0 ∧ (∀ x, x < n → D (φ x)) ∧ ∀ x c, x < n → c < 2 * g → φ (act x c) = act' (φ x) c
/-- how many cosets there can be -/
theorem Reg.fits {g n : Nat} {rels sub : List W} {t : Tb} (hg : 1 ≤ g ∧ g ≤ 16) (h : Reg g rels n) (hr : ∀ j, j < rels.length → LOk g (rels.getD j [])) (ht : Coset g rels sub t) : (∃ k, n = t.length * k) ∧ (sub.length = 0 → t.length = n) := by
  obtain ⟨act, hn1, hn2, hM, hP, hU⟩ := h
  have hlen : ((List.range n).map fun x => (List.range (2 * g)).map fun c => (act x c : Int)).length = n := by simp
  have hrow : ∀ x, x < n → Tb.row ((List.range n).map fun x => (List.range (2 * g)).map fun c => (act x c : Int)) x = (List.range (2 * g)).map fun c => (act x c : Int) := fun x hx => by
    unfold Tb.row; simp [List.getD_eq_getElem?_getD, hx]
  have hat : ∀ x c, x < n → c < 2 * g → Tb.at ((List.range n).map fun x => (List.range (2 * g)).map fun c => (act x c : Int)) x c = (act x c : Int) := fun x c hx hc => by
    unfold Tb.at
    rw [hrow x hx]; simp [List.getD_eq_getElem?_getD, hc]
  generalize ((List.range n).map fun x => (List.range (2 * g)).map fun c => (act x c : Int)) = u at *
  have hu : Full g u := by
    refine ⟨⟨hg.1, hg.2, by omega, by omega, fun r hr => by rw [hrow r (by omega)]; simp, fun r hr c hc => ?_, fun r hr c hc _ => ?_⟩, fun r hr c hc => by rw [hat r c (by omega) hc]; omega, fun x hx => ?_⟩
    · rw [hat r c (by omega) hc]
      have := hM.cl r c (by omega) hc
      omega
    · have h1 := hM.cl r c (by omega) hc
      rw [hat r c (by omega) hc, Int.toNat_natCast, hat _ _ h1 (flp_lt2 hc), hM.inv r c (by omega) hc]
    · rw [hlen] at hx
      induction x using Nat.strongRecOn with
      | _ x ih =>
        rcases Nat.eq_zero_or_pos x with h0 | h0
        · rw [h0]; exact .refl _
        · obtain ⟨p, c, h1, h2, h3⟩ := hP x h0 hx
          exact .step (ih p h1 (by omega)) h2 (by unfold Edge; rw [hat p c (by omega) h2, h3])
  -- the regular table maps onto t
  obtain ⟨φ, h1, h2, h3⟩ := hU (ht.full.mdl hr ht.rel) ht.full.good.n1
  have hH : Hm g u t φ := ⟨fun x hx => h2 x (by omega), fun x c y hx hc he => by
    have h4 := h3 x c (by omega) hc
    unfold Edge at he
    rw [hat x c (by omega) hc] at he
    have : act x c = y := by omega
    rw [this] at h4
    rw [h4]
    exact (ht.full.nx (h2 x (by omega)) hc).2⟩
  obtain ⟨k, hk⟩ := hH.dvd hu ht.full
  rw [hlen] at hk
  refine ⟨⟨k, hk⟩, fun hsub => ?_⟩
  obtain ⟨ψ, k1, k2, k3⟩ := ht.univ hM (show (0 : Nat) < n by omega) (fun j hj => absurd hj (by omega))
  have hH2 : Hm g t u ψ := ⟨fun x hx => by rw [hlen]; exact k2 x hx, fun x c y hx hc he => by
    unfold Edge
    rw [hat _ c (k2 x hx) hc, k3 x c y hx hc he]⟩
  obtain ⟨k', hk'⟩ := hH2.dvd ht.full hu
  rw [hlen] at hk'
  have hn0 := ht.full.good.n1
  have e1 : t.length ≤ n := by
    rcases Nat.eq_zero_or_pos k with h0 | h0
    · rw [h0] at hk; omega
    · rw [hk]; exact Nat.le_mul_of_pos_right _ h0
  have e2 : n ≤ t.length := by
    rcases Nat.eq_zero_or_pos k' with h0 | h0
    · rw [h0] at hk'; omega
    · rw [hk']; exact Nat.le_mul_of_pos_right _ h0
  omega
end Go.Proofs.Ct
namespace Go.Proofs
open Go.RowKit Go.Shelf Go.Proofs.Ct Go.Maps
theorem letBad_ok {g : Nat} {w : W} (h : LOk g w) : w.any (letBad g) = false := by
  rw [List.any_eq_false]
  intro x hx
  have := h x hx
  unfold letBad
  simp
  omega
theorem sumTo_short {l : List W} {m : Nat} (h : ∀ j, (l.getD j []).length ≤ m) : ∀ k, sumTo l k ≤ k * m
  | 0 => by simp [sumTo, foldTo]
  | k + 1 => by
    have := sumTo_short h k
    have := h k
    show sumTo l k + (l.getD k []).length ≤ (k + 1) * m
    rw [Nat.add_mul]
    omega
/-- words in g generators, few and short -/
structure Wds (g : Nat) (l : List W) (n m : Nat) : Prop where
  len : l.length ≤ n
  short : ∀ j, (l.getD j []).length ≤ m
  ok : ∀ j, j < l.length → LOk g (l.getD j [])
theorem Wds.pres {g n m : Nat} {l : List W} (h : Wds g l n m) (hg : 1 ≤ g ∧ g ≤ 16) (hn : n ≤ 100) (hnm : n * m ≤ 4000) : presE g l = 0 := by
  refine presE_none hg (Nat.le_trans h.len hn) fun j hj => ?_
  unfold presBad
  have h1 := sumTo_short h.short (j + 1)
  have h2 : (j + 1) * m ≤ n * m := Nat.mul_le_mul_right _ (by have := h.len; omega)
  rw [if_neg (by omega), if_neg (by rw [letBad_ok (h.ok j hj)]; simp)]
theorem Wds.good {g n m : Nat} {l : List W} (h : Wds g l n m) (hn : n ≤ 100) (hnm : n * m ≤ 4000) {lim : Nat} (hl : 1 ≤ lim ∧ lim ≤ 20000) : badArgs g l (lim : Int) = false := by
  have h1 := sumTo_short h.short l.length
  have h2 : l.length * m ≤ n * m := Nat.mul_le_mul_right _ h.len
  have h3 := h.len
  have h4 : (l.any fun w => w.any (letBad g)) = false := by
    rw [List.any_eq_false]
    intro w hw
    obtain ⟨j, hj, rfl⟩ := List.mem_iff_getElem.1 hw
    have := h.ok j hj
    rw [List.getD_eq_getElem?_getD, List.getElem?_eq_getElem hj] at this
    have h5 := letBad_ok this
    simp only [Option.getD_some] at h5
    rw [h5]; simp
  unfold badArgs
  rw [h4]
  simp only [Bool.or_false, Bool.or_eq_false_iff, decide_eq_false_iff_not]
  omega
section
variable {g n m n' m' lim : Nat} {rels sub : List W}
end
end Go.Proofs
namespace Go.Proofs
open Go.RowKit Go.Shelf Go.Proofs.Ct Go.Maps
theorem eql49g (a b c : Int) (w : World) : (binOp .eql 49 (.agg #[.int .i64 a, .int .i64 b, .int .i64 c]) (.agg #[.int .i64 a, .int .i64 b, .int .i64 c])).run Try.prog w = .ok (.bool true) w := by
  simp [go_sem]
end Go.Proofs
namespace Go.Proofs
open Go.RowKit Go.Shelf Go.Proofs.Ct Go.Maps
section
variable {o : Oper} {a : Act} {w w' : World} {n : Nat} {v : Value} {ops : Array Oper}
theorem r_call1 {f : FuncId} (x : Operand) (u : Value) (T : Array TypeId) (ho : o.op = .call { callee := .value (.func f), args := #[x], argTypes := T }) (hx : a.eval x = u)
    (he : ∀ args w, (callFunc f args).run Try.prog w = .ok (.enter f args) w) : (execOp a.eval o).run Try.prog w = .ok (.enter f #[u]) w := by
  have hf : a.eval (.func f) = .func (.func f) #[] #[] := rfl
  unfold execOp
  simp only [ho, resolve, List.map_toArray, List.map_cons, List.map_nil, hx, hf]
  simp [go_sem, he]
end
section
variable {N : Nat} {wr : Nat → Bool} {us : Nat → Nat → Bool} {O : Nat → Nat → Prop} {i j : Nat} {w w' W0 : World} {base : Nat} {v : Value}
end
end Go.Proofs
namespace Go.Proofs.Ct
theorem inv_drop (w : W) (i : Nat) : Ct.inv (w.drop i) = (Ct.inv w).take (w.length - i) := by
  unfold inv
  rw [List.reverse_drop, List.map_take]
theorem leadTo_take (t : Tb) (r : Int) (w : W) (n : Nat) : ∀ k, k ≤ n → leadTo t r (w.take n) k = leadTo t r w k
  | 0, _ => rfl
  | k + 1, h => by
    have e : (w.take n).getD k 0 = w.getD k 0 := by
      rw [List.getD_eq_getElem?_getD, List.getElem?_take, if_pos (by omega), ← List.getD_eq_getElem?_getD]
    rw [leadTo_succ, leadTo_succ, leadTo_take t r w n k (by omega), e]
/-- the way back that the program goes -/
theorem fwd_back (t : Tb) (r : Int) (w : W) {i : Nat} (hi : i ≤ w.length) : fwd t r (Ct.inv (w.drop i)) = bwd t r w i ∧ leadTo t r (Ct.inv (w.drop i)) (bwd t r w i) = leadTo t r (Ct.inv w) (bwd t r w i) ∧ i + bwd t r w i ≤ w.length := by
  obtain ⟨h1, h2, h3⟩ := bwd_spec t r w i
  have hb : i + bwd t r w i ≤ w.length := by
    rcases Nat.eq_zero_or_pos (bwd t r w i) with e | e
    · omega
    · have := (h3 (bwd t r w i - 1) (by omega)).1
      omega
  have hl : (Ct.inv (w.drop i)).length = w.length - i := by rw [length_inv, List.length_drop]
  refine ⟨fwd_eq (by omega) ?_ fun j hj => ?_, ?_, hb⟩
  · rcases h2 with h | h
    · exact .inl (by omega)
    · by_cases hn : bwd t r w i = w.length - i
      · exact .inl (by omega)
      · right
        rw [inv_drop, leadTo_take _ _ _ _ _ (by omega)]
        exact h
  · rw [inv_drop, leadTo_take _ _ _ _ _ (by omega)]
    exact (h3 j hj).2
  · rw [inv_drop, leadTo_take _ _ _ _ _ (by omega)]
theorem lead_inF {g : Nat} {s : St} (hI : Inv g s) {vs : W} (hl : LOk g vs) {r : Nat} (hr : r < s.t.length) : ∀ k, k ≤ vs.length → 0 ≤ leadTo s.t r vs k → (leadTo s.t r vs k).toNat < s.t.length
  | 0, _, _ => by
    show ((r : Int)).toNat < _
    rw [Int.toNat_natCast]; exact hr
  | k + 1, h2, h3 => by
    have ih := lead_inF hI hl hr k (by omega)
    rw [leadTo_succ] at h3 ⊢
    by_cases hneg : leadTo s.t r vs k < 0
    · rw [if_pos hneg] at h3; omega
    · rw [if_neg hneg] at h3 ⊢
      have hin := ih (by omega)
      have := (hI.bd _ hin _ (hl.col (k := k) (by omega))).2
      omega
theorem LOk.drop {g : Nat} {w : W} (h : LOk g w) (i : Nat) : LOk g (w.drop i) := fun x hx => h x (List.mem_of_mem_drop hx)
end Go.Proofs.Ct
namespace Go.Proofs
open Go.RowKit Go.Shelf Go.Proofs.Ct Go.Maps
theorem bl3F {a b c : World} (h1 : Below a.heap.size a b) (h2 : Below b.heap.size b c) : Below a.heap.size a c := h1.trans (h2.mono h1.size)
theorem lok_mildF {g : Nat} (hg : g ≤ 100000) {a : W} (h : LOk g a) : ∀ z ∈ a, Mild z := fun z hz => by
  have := h z hz
  unfold Mild
  omega
theorem under25e : Try.prog.underlying 25 = some (.slice (Try.prog.elem 25)) := by kernel_rfl
theorem r_slice_lo25 {o : Oper} {a : Act} {w : World} (x y : Operand) (A : Option Addr) (n c k : Nat) (ho : o.op = .slice 25 x (some y) none none) (hx : a.eval x = .slice A n c) (hy : a.eval y = .int .i64 (k : Int)) (hk : k ≤ n) : (execOp a.eval o).run Try.prog w = .ok (.value (sliced A k n c 1)) w := by
  have hu := under25e
  have hs : (sizeOf (Try.prog.elem 25)).run Try.prog w = .ok 1 w := by kernel_rfl
  unfold execOp
  simp only [ho, hx, hy, Option.map_none, Option.map_some, Sem.run_bind, run_sliceAt_slice w 25 _ _ _ _ hu, run_slice_l w 25 A n c hu .i64 (k : Int) (by omega) (by omega)]
  simp [hs]
set_option maxRecDepth 100000 in
set_option maxHeartbeats 4000000 in
theorem scan196_any (K : Nat → Prop) (T : TypeId) (ex : List Value) (bl cs : Nat → Nat) (g m base b lim r : Nat) (hm : m = 2 * g) (hg1 : 1 ≤ g) (hg : g ≤ 16) (w : World) (f : FS) (u : Value) (ws : W) (hT : TyF T) (hR : Ct.Rest g f.s) (hS : StFB K T ex bl cs base b m lim w f) (hbw : base ≤ w.heap.size) (hn : f.s.t.length ≤ 1000000) (hu : IntsAt w u ws) (hl : LOk g ws) (hwl : ws.length ≤ 1000000) (hr : r < f.s.t.length) (hk : f.k.length + f.s.t.length * m ≤ 1000000000000) :
    Calls Try.prog 196 #[.pointer (some ⟨b, 0, none⟩), .int .i64 (r : Int), u] w fun e w' => e = .returned (openV (scanF m f r ws).2) ∧ StFB K T ex bl cs base b m lim w' (scanF m f r ws).1 ∧ Keeps base K w w' := by
  obtain ⟨Au, cu, rfl, hu1, hu2, -⟩ := hu.open_
  obtain ⟨i, hi⟩ : ∃ i, fwd f.s.t r ws = i := ⟨_, rfl⟩
  obtain ⟨hfs1, -, hfs3⟩ := fwd_spec f.s.t r ws
  rw [hi] at hfs1
  obtain ⟨j, hj⟩ : ∃ j, bwd f.s.t r ws i = j := ⟨_, rfl⟩
  obtain ⟨hb1, hb2, hb3⟩ := fwd_back f.s.t r ws hfs1
  rw [hj] at hb1 hb2 hb3
  have hlen : ∀ (vs : W) (k : Nat), LOk g vs → k ≤ vs.length → 0 ≤ leadTo f.s.t r vs k → (leadTo f.s.t r vs k).toNat < f.s.t.length := fun vs k h1 h2 h3 => lead_inF hR.inv h1 hr k h2 h3
  obtain ⟨z, hz⟩ : ∃ z : Nat, leadTo f.s.t r ws i = (z : Int) := ⟨(leadTo f.s.t r ws i).toNat, by have := fwd_pos f.s.t r ws; rw [hi] at this; omega⟩
  obtain ⟨v, hv⟩ : ∃ v : Nat, leadTo f.s.t r (Ct.inv ws) j = (v : Int) := ⟨(leadTo f.s.t r (Ct.inv ws) j).toNat, by have := bwd_pos f.s.t r ws i; rw [hj] at this; omega⟩
  have hzl : z < f.s.t.length := by have := hlen ws i hl hfs1 (by rw [hz]; omega); rw [hz, Int.toNat_natCast] at this; exact this
  have hvl : v < f.s.t.length := by have := hlen (Ct.inv ws) j hl.inv (by rw [length_inv]; omega) (by rw [hv]; omega); rw [hv, Int.toNat_natCast] at this; exact this
  have HSC : Hid (scanF m f r ws = if i = ws.length then (if (z : Int) = (r : Int) then f else coinF m f z r, none) else if ws.length ≤ i + j then (coinF m f z v, none) else if ws.length = i + j + 1 then (joinF f z (col (ws.getD i 0)) v, none) else (f, some (z, col (ws.getD i 0)))) := Lib.hid (by
    unfold scanF
    rw [hi, hj, hz, hv, Int.toNat_natCast, Int.toNat_natCast])
  have HBW := Lib.hid hbw
  have HSW : Hid (∀ W, Below w.heap.size w W → StFB K T ex bl cs base b m lim W f ∧ base ≤ W.heap.size ∧ Keeps base K w W ∧ IntsAt W (.slice Au ws.length cu) ws) := Lib.hid fun W h => ⟨hS.below h, Nat.le_trans hbw h.size, Keeps.all h hbw hS.lt, hu.below h⟩
  have HW1 : Hid (Calls Try.prog 214 #[.pointer (some ⟨b, 0, none⟩), .int .i64 (r : Int), .slice Au ws.length cu] w fun e w' => e = .returned (.tuple #[.int .i64 (z : Int), .int .i64 (i : Int)]) ∧ ∃ q, w' = w.drewN q) := Lib.hid (by
    have h := walk214_any K T ex bl cs g base b m lim r hg w f _ ws hR.inv hS hn hu hl hr
    rw [hi, hz] at h
    exact h)
  have HW2 : Hid (∀ W v0, Below w.heap.size w W → IntsAt W v0 (Ct.inv (ws.drop i)) → Calls Try.prog 214 #[.pointer (some ⟨b, 0, none⟩), .int .i64 (r : Int), v0] W fun e w' => e = .returned (.tuple #[.int .i64 (v : Int), .int .i64 (j : Int)]) ∧ ∃ q, w' = W.drewN q) := Lib.hid fun W v0 h1 h2 => by
    have h := walk214_any K T ex bl cs g base b m lim r hg W f _ _ hR.inv (hS.below h1) hn h2 (hl.drop i).inv hr
    rw [hb1, hb2, hv] at h
    exact h
  have hms : ∀ x ∈ ws.drop i, Mild x := lok_mildF (by omega) (hl.drop i)
  have HIV : Hid (∀ W v0, IntsAt W v0 (ws.drop i) → Calls Try.prog 189 #[v0] W (InvPost (ws.drop i) W)) := Lib.hid fun W v0 h => inverse189_any W v0 _ h (by rw [List.length_drop]; omega) hms
  have HFI : Hid (Fits (Ct.inv (ws.drop i))) := Lib.hid fun x hx => by have := (hl.drop i).inv x hx; omega
  have HSL : Hid (∀ W, IntsAt W (.slice Au ws.length cu) ws → ∃ A', sliced Au i ws.length cu 1 = .slice A' (ws.length - i) (cu - i) ∧ IntsAt W (.slice A' (ws.length - i) (cu - i)) (ws.drop i)) := Lib.hid fun W h => by
    obtain ⟨A', h1, h2⟩ := ints_sliced h hfs1 (Nat.le_refl _)
    rw [List.take_length] at h2
    exact ⟨A', h1, h2⟩
  have HCN : Hid (∀ W p q, p < f.s.t.length → q < f.s.t.length → StFB K T ex bl cs base b m lim W f → base ≤ W.heap.size → Calls Try.prog 215 #[.pointer (some ⟨b, 0, none⟩), .int .i64 (p : Int), .int .i64 (q : Int)] W fun e w' => e = .returned (.tuple #[]) ∧ StFB K T ex bl cs base b m lim w' (coinF m f p q) ∧ Keeps base K W w') := Lib.hid fun W p q h1 h2 h3 h4 =>
    coincide215_any K T ex bl cs g m base b lim p q hm W f hT hR hg1 hg h3 h4 h1 h2 hn hk
  have HJO : Hid (∀ W p c q, p < f.s.t.length → q < f.s.t.length → c < 2 * g → StFB K T ex bl cs base b m lim W f → base ≤ W.heap.size → Calls Try.prog 216 #[.pointer (some ⟨b, 0, none⟩), .int .i64 (p : Int), .int .i64 (c : Int), .int .i64 (q : Int)] W fun e w' => e = .returned (.tuple #[]) ∧ StFB K T ex bl cs base b m lim w' (joinF f p c q) ∧ Keeps base K W w') := Lib.hid fun W p c q h1 h2 h3 h4 h5 =>
    set216_any K T ex bl cs g base b m lim p c q W f hT hR.inv hg h4 h5 h1 h2 h3 hn (by omega)
  have HLL := Lib.hid hl
  have hws0 : (0 : Int) ≤ (ws.length : Int) := Int.natCast_nonneg _
  have hws1 : (ws.length : Int) ≤ 1000000 := by omega
  have hi0 : (0 : Int) ≤ (i : Int) := Int.natCast_nonneg _
  have hi1 : (i : Int) ≤ (ws.length : Int) := by omega
  have hj0 : (0 : Int) ≤ (j : Int) := Int.natCast_nonneg _
  have hij : (i : Int) + (j : Int) ≤ (ws.length : Int) := by omega
  have hz0 : (0 : Int) ≤ (z : Int) := Int.natCast_nonneg _
  have hr0 : (0 : Int) ≤ (r : Int) := Int.natCast_nonneg _
  have hv0 : (0 : Int) ≤ (v : Int) := Int.natCast_nonneg _
  have hjv : i = ws.length → v = r := fun e => by
    have : j = 0 := by omega
    rw [this] at hv
    have : (r : Int) = (v : Int) := hv
    omega
  clear hS hu hR hl hT hbw hfs3 hb1 hb2 hlen hz hv hms hi hj
  obtain ⟨A', hsl, -⟩ := HSL.out w (HSW.out w (Below.refl _ _)).2.2.2
  have HSV := Lib.hid hsl
  have HSI : Hid (∀ W, Below w.heap.size w W → IntsAt W (.slice A' (ws.length - i) (cu - i)) (ws.drop i)) := Lib.hid fun W h => by
    obtain ⟨A2, h1, h2⟩ := HSL.out W (HSW.out W h).2.2.2
    rw [HSV.out] at h1
    obtain ⟨rfl, -, -⟩ := Value.slice.inj h1
    exact h2
  clear hsl
  go_enter Try.func196, Try.ntmps196
  go_wp2_with fail
  refine HW1.out.mono ?_
  rintro e w1 ⟨rfl, q1, rfl⟩
  have HB1 : Hid (Below w.heap.size w (w.drewN q1)) := Lib.hid (below_drewN (Below.refl _ _) q1)
  clear HW1
  generalize w.drewN q1 = w1 at *
  go_wp2_with ((with_reducible refine wpList_sel 25 ?_); refine wpList_val rfl (r_slice_lo25 (.tmp 23) (.tmp 24) _ _ _ i rfl rfl rfl (by omega)) ?_; rw [show sliced Au i ws.length cu 1 = _ from HSV.out])
  refine (HIV.out _ _ (HSI.out _ HB1.out)).mono ?_
  rintro e w2 ⟨A3, c3, rfl, ho, hb⟩
  have HB2 := Lib.hid (bl3F HB1.out hb)
  have hi2 := OwnI.ints ho HFI.out
  rw [List.length_drop] at hi2
  have HI2 := Lib.hid hi2
  clear ho hb hi2
  go_wp2_with fail
  refine (HW2.out _ _ HB2.out HI2.out).mono ?_
  rintro e w3 ⟨rfl, q2, rfl⟩
  have HB3 : Hid (Below w.heap.size w (w2.drewN q2)) := Lib.hid (bl3F HB2.out (below_drewN (Below.refl _ _) q2))
  clear HW2 HI2 HB2 HB1 HIV HFI HSI HSV HSL
  generalize w2.drewN q2 = w3 at *
  have HCC : Hid (∀ (p q : Nat), p < f.s.t.length → q < f.s.t.length → Calls Try.prog 215 #[.pointer (some ⟨b, 0, none⟩), .int .i64 (p : Int), .int .i64 (q : Int)] w3 fun e w' => e = .returned (.tuple #[]) ∧ StFB K T ex bl cs base b m lim w' (coinF m f p q) ∧ Keeps base K w w') := Lib.hid fun p q h1 h2 =>
    (HCN.out w3 p q h1 h2 (HSW.out _ HB3.out).1 (HSW.out _ HB3.out).2.1).mono fun e w' ⟨h1, h2, h3⟩ => ⟨h1, h2, (HSW.out _ HB3.out).2.2.1.trans h3⟩
  by_cases hil : i = ws.length
  · obtain rfl := hjv hil
    subst hil
    have hje : j = 0 := by omega
    subst hje
    by_cases hzr : z = v
    · have HE : Hid (scanF m f v ws = (f, none)) := Lib.hid (by rw [HSC.out, if_pos rfl, if_pos (by rw [hzr])])
      subst hzr
      clear HCC HSC HCN HJO
      go_wp2_with fail
      go_ret3
      exact ⟨by rw [HE.out]; rfl, by rw [HE.out]; exact (HSW.out _ HB3.out).1, (HSW.out _ HB3.out).2.2.1⟩
    · have HE : Hid (scanF m f v ws = (coinF m f z v, none)) := Lib.hid (by rw [HSC.out, if_pos rfl, if_neg (by omega)])
      have d1 : ((z : Int) == (v : Int)) = false := by rw [beq_eq_false_iff_ne]; omega
      have d2 : ((z : Int) != (v : Int)) = true := by simp; omega
      have HC := Lib.hid (HCC.out z v hzl hvl)
      clear HCC HSC HCN HJO hzr
      go_wp2_with fail
      refine HC.out.mono ?_
      rintro e w4 ⟨rfl, hs, hb⟩
      have HS4 := Lib.hid hs
      have HB4 := Lib.hid hb
      clear hs hb
      go_wp2_with fail
      go_ret3
      exact ⟨by rw [HE.out]; rfl, by rw [HE.out]; exact HS4.out, HB4.out⟩
  · have hilt : (i : Int) < (ws.length : Int) := by omega
    have d0 : ((i : Int) == (ws.length : Int)) = false := by rw [beq_eq_false_iff_ne]; omega
    clear hjv
    obtain ⟨-, -, -, bw, ow, rfl, hcc⟩ : True ∧ True ∧ True ∧ ∃ b off, Au = some ⟨b, off, none⟩ ∧ ∀ k, k < ws.length → w3.cell? ⟨b, off + k, none⟩ = some (.int .i64 (ws.getD k 0)) := by
      obtain ⟨A9, c9, e9, -, -, h9⟩ := (HSW.out _ HB3.out).2.2.2.open_
      obtain ⟨rfl, -, rfl⟩ := Value.slice.inj e9
      exact ⟨trivial, trivial, trivial, h9 (by omega)⟩
    have hci := hcc i (by omega)
    have hx := HLL.out.getD (k := i) (by omega)
    have hcx := HLL.out.col (k := i) (by omega)
    have hxr : -16 ≤ ws.getD i 0 ∧ ws.getD i 0 ≤ 16 := by omega
    have HCO : Hid (∀ W, Calls Try.prog 217 #[.int .i64 (ws.getD i 0)] W fun e w' => e = .returned (.int .i64 (col (ws.getD i 0) : Nat)) ∧ W = w') := Lib.hid fun W => column217_any W _ (by omega)
    have HJJ : Hid (Calls Try.prog 216 #[.pointer (some ⟨b, 0, none⟩), .int .i64 (z : Int), .int .i64 (col (ws.getD i 0) : Nat), .int .i64 (v : Int)] w3 fun e w' => e = .returned (.tuple #[]) ∧ StFB K T ex bl cs base b m lim w' (joinF f z (col (ws.getD i 0)) v) ∧ Keeps base K w w') := Lib.hid
      ((HJO.out w3 z _ v hzl hvl hcx (HSW.out _ HB3.out).1 (HSW.out _ HB3.out).2.1).mono fun e w' ⟨h1, h2, h3⟩ => ⟨h1, h2, (HSW.out _ HB3.out).2.2.1.trans h3⟩)
    have HSCX := Lib.hid HSC.out
    rw [if_neg hil] at HSCX
    clear hcc hx hil HSC HCN HJO
    by_cases hg0 : ws.length ≤ i + j
    · have HE : Hid (scanF m f r ws = (coinF m f z v, none)) := Lib.hid (by rw [HSCX.out, if_pos hg0])
      have hgz : (ws.length : Int) - (i : Int) - (j : Int) = 0 := by omega
      have HC := Lib.hid (HCC.out z v hzl hvl)
      clear HCC HSCX hg0 HJJ
      go_wp2_with fail
      refine HC.out.mono ?_
      rintro e w4 ⟨rfl, hs, hb⟩
      have HS4 := Lib.hid hs
      have HB4 := Lib.hid hb
      clear hs hb
      go_wp2_with fail
      go_ret3
      exact ⟨by rw [HE.out]; rfl, by rw [HE.out]; exact HS4.out, HB4.out⟩
    · have d3 : ((ws.length : Int) - (i : Int) - (j : Int) == 0) = false := by rw [beq_eq_false_iff_ne]; omega
      by_cases hg2 : ws.length = i + j + 1
      · have HE : Hid (scanF m f r ws = (joinF f z (col (ws.getD i 0)) v, none)) := Lib.hid (by rw [HSCX.out, if_neg hg0, if_pos hg2])
        have hgz : (ws.length : Int) - (i : Int) - (j : Int) = 1 := by omega
        clear HCC HSCX hg0
        generalize col (ws.getD i 0) = cx at *
        generalize ws.getD i 0 = x at *
        go_wp2_with (first
          | (go_at_call 217; (refine (HCO.out _).mono ?_); rintro e w4 ⟨rfl, rfl⟩)
          | (go_at_call 216; (refine HJJ.out.mono ?_); rintro e w5 ⟨rfl, hs, hb⟩
             have HS4 := Lib.hid hs
             have HB4 := Lib.hid hb
             clear hs hb))
        go_ret3
        exact ⟨by rw [HE.out]; rfl, by rw [HE.out]; exact HS4.out, HB4.out⟩
      · have HE : Hid (scanF m f r ws = (f, some (z, col (ws.getD i 0)))) := Lib.hid (by rw [HSCX.out, if_neg hg0, if_neg hg2])
        have hgz : 1 < (ws.length : Int) - (i : Int) - (j : Int) := by omega
        have d4 : ((ws.length : Int) - (i : Int) - (j : Int) == 1) = false := by rw [beq_eq_false_iff_ne]; omega
        clear HCC HSCX hg0 hg2 HJJ
        generalize col (ws.getD i 0) = cx at *
        generalize ws.getD i 0 = x at *
        go_wp2_with (go_at_call 217; (refine (HCO.out _).mono ?_); rintro e w4 ⟨rfl, rfl⟩)
        go_ret3
        exact ⟨by rw [HE.out]; rfl, by rw [HE.out]; exact (HSW.out _ HB3.out).1, (HSW.out _ HB3.out).2.2.1⟩
end Go.Proofs
namespace Go.Proofs
open Go.RowKit Go.Shelf Go.Proofs.Ct Go.Maps
/-- a list that grows: other blocks stay, its block is its own or new -/
def Grw (w w' : World) (v v' : Value) : Prop := w.heap.size ≤ w'.heap.size ∧ (∀ k, k < w.heap.size → v.ownBlock ≠ some k → w'.heap[k]? = w.heap[k]?) ∧ ∀ r, v'.ownBlock = some r → v.ownBlock = some r ∨ w.heap.size ≤ r
theorem Grw.of_below {w w' : World} (h : Below w.heap.size w w') (v : Value) : Grw w w' v v := ⟨h.size, fun k hk _ => h.block k hk, fun _ hr => .inl hr⟩
theorem Grw.trans {w w1 w2 : World} {v v1 v2 : Value} (h : Grw w w1 v v1) (h' : Grw w1 w2 v1 v2) : Grw w w2 v v2 := by
  refine ⟨Nat.le_trans h.1 h'.1, fun k hk hn => (h'.2.1 k (Nat.lt_of_lt_of_le hk h.1) fun e => ?_).trans (h.2.1 k hk hn), fun r hr => ?_⟩
  · rcases h.2.2 k e with h1 | h1
    · exact hn h1
    · omega
  · rcases h'.2.2 r hr with h1 | h1
    · exact h.2.2 r h1
    · exact .inr (Nat.le_trans h.1 h1)
theorem OutSt2.done2 {t e : TypeId} (he : e ≠ 3) (ht : Try.prog.underlying t = some (.slice e)) (hi : ∃ i, Try.prog.info? e = some i ∧ i.zero = some (.slice none 0 0) ∧ i.size = 1 ∧ i.bytes = 24) {F : Nat → Prop} {w0 wr : World} {vout : Value} {A : Option Addr} {n c : Nat} {rows : List (List Int)} {x : List Int} (h : OutSt2 e F w0 wr vout (.slice A n c) rows x) (hf : Fits x) (hl : rows.length ≤ 1000000) :
    ∃ A' c' w', (Builtin.append_ #[t, t] t #[vout, .slice (some ⟨wr.heap.size, 0, none⟩) 1 1]).run Try.prog (wr.alloc (.cells #[.slice A n c] e)) = .ok (.slice A' (rows.length + 1) c') w' ∧
      OutSt e (fun k => F k ∨ (Value.slice A n c).ownBlock = some k) w0 w' (.slice A' (rows.length + 1) c') (rows ++ [x]) ∧ Grw wr w' vout (.slice A' (rows.length + 1) c') := by
  have hub := h.st.out.block
  have hrb := owns_block h.row
  have hne : ∀ {k : Nat} {C : Array Value} {fr : Nat × Nat}, wr.heap[k]? = some (.cells C 3 fr) → vout.ownBlock ≠ some k := fun {k C fr} hc e' => by
    obtain ⟨-, C', hC'⟩ := hub k e'
    rw [hc] at hC'
    injection hC' with h5
    injection h5 with _ h6 _
    exact he h6.symm
  have hF2 : ∀ k, (F k ∨ (Value.slice A n c).ownBlock = some k) → k < wr.heap.size ∧ vout.ownBlock ≠ some k := fun k hk => by
    rcases hk with hk | hk
    · obtain ⟨h1, h2, C, hC⟩ := h.st.fs k hk
      exact ⟨h2, hne hC⟩
    · obtain ⟨h1, C, hC⟩ := hrb k hk
      exact ⟨(Array.getElem?_eq_some_iff.1 hC).1, hne hC⟩
  obtain ⟨A', c', w', hr, ho', hg, hw⟩ := push_row (ty := t) ht hi wr w0.heap.size (fun k => F k ∨ (Value.slice A n c).ownBlock = some k) vout rows (h.st.out.keep (fun _ _ => rfl) (Ag.refl _ _) (fun k hk => .inl hk)) A n c x ((IntsF.of_own h.row hf).mono fun k hk => .inr hk) hF2 (by omega) h.st.below.size
  refine ⟨A', c', w', hr, ⟨h.st.below.grown hg h.st.below.size (fun k hk => (hub k hk).1), ho', fun k hk => ?_⟩, hg.size, fun k hk hn => hg.block k hk (Ne.symm hn), fun r hr' => ?_⟩
  · have h2 := (hF2 k hk).1
    rcases hk with hk | hk
    · obtain ⟨h1, _, C, hC⟩ := h.st.fs k hk
      exact ⟨h1, Nat.lt_of_lt_of_le h2 hg.size, C, grown_cells hg hC (hne hC)⟩
    · obtain ⟨h1, C, hC⟩ := hrb k hk
      exact ⟨h1, Nat.lt_of_lt_of_le h2 hg.size, C, grown_cells hg hC (hne hC)⟩
  · rcases hw with hw | ⟨r', hr2, hge⟩
    · exact .inl (hw ▸ hr')
    · rw [hr2] at hr'
      exact .inr (Option.some.inj hr' ▸ hge)
theorem r_lo25 {o : Oper} {a : Act} {w : World} {v : Value} (x y : Operand) (A : Option Addr) (n c k : Nat) (ho : o.op = .slice 25 x (some y) none none) (hx : a.eval x = .slice A n c) (hy : a.eval y = .int .i64 (k : Int)) (hk : k ≤ n) (hv : sliced A k n c 1 = v) : (execOp a.eval o).run Try.prog w = .ok (.value v) w := by
  rw [← hv]; exact r_slice_lo25 x y A n c k ho hx hy hk
theorem r_hi25 {o : Oper} {a : Act} {w : World} {v : Value} (x y : Operand) (A : Option Addr) (n c h : Nat) (ho : o.op = .slice 25 x none (some y) none) (hx : a.eval x = .slice A n c) (hy : a.eval y = .int .i64 (h : Int)) (hc : h ≤ c) (hv : sliced A 0 h c 1 = v) : (execOp a.eval o).run Try.prog w = .ok (.value v) w := by
  rw [← hv]
  have hu := under25e
  have hs : (sizeOf (Try.prog.elem 25)).run Try.prog w = .ok 1 w := by kernel_rfl
  unfold execOp
  simp only [ho, hx, hy, Option.map_none, Option.map_some, Sem.run_bind, run_sliceAt_slice w 25 _ _ _ _ hu, run_slice_h w 25 A n c hu .i64 (h : Int) (by omega) (by omega)]
  simp [hs]
theorem rotTo_len (l : List W) (w : W) (x : Int) (k : Nat) : (rotTo l w x k).length ≤ l.length + k := by
  induction k with
  | zero => exact Nat.le_refl _
  | succ k ih =>
    rw [show rotTo l w x (k + 1) = (if w.getD k 0 = x ∧ w.drop k ++ w.take k ∉ rotTo l w x k then rotTo l w x k ++ [w.drop k ++ w.take k] else rotTo l w x k) from rfl]
    split
    · rw [List.length_append]; simp only [List.length_singleton]; omega
    · omega
end Go.Proofs
namespace Go.Proofs
open Go.RowKit Go.Shelf Go.Proofs.Ct Go.Maps
section
variable {F : Fence} {n : Nat} {P : Program} {ops : Array Oper} {Q : Exit → Act → World → Prop}
theorem wpIn_region_tie {id : Nat} {a0 : Act} {w : World} (hm : P.follows .mixedOrders = true) (N : Nat) (hN : ops.size = N) (dm : Nat → Option Tmp) (hlex : ∀ (i : Nat) (o : Oper), ops[i]? = some o → ∀ e ∈ o.after.toList, Region.binds .any e = true → e.on < i)
    (base : Nat) (wr : Nat → Bool) (us : Nat → Nat → Bool) (S : World → Prop) (Φ : Nat → Value → (Nat → Prop) → World → Prop)
    (tk : Nat → Nat) (htk : ∀ j, j < N → tk j = j ∨ (dm j = none ∧ tk j < N ∧ us j (tk j) = true)) (hus : usB ops N us = true) (huq : uqB N wr us = true)
    (hdm : ∀ i j t, i < N → j < N → dm i = some t → dm j = some t → i = j)
    (hst : ∀ (j : Nat) (v : Value) (O : Nat → Prop) (W W' : World), j < N → (∀ k, O k → k < W.heap.size) → (∀ k, O k → W'.heap[k]? = W.heap[k]?) → W.heap.size ≤ W'.heap.size → S W → S W' → Φ j v O W → Φ j v O W')
    (hsz : ∀ i t, i < N → dm i = some t → t < a0.tmps.size) (hbase : base ≤ w.heap.size) (h0 : S w.drew)
    (hop : ∀ (O : Nat → Nat → Prop) (ls : Nat → Bool) (i : Nat) (o : Oper) (a : Act) (w : World), i < N → ops[i]? = some o → S w → base ≤ w.heap.size → ls i = false → Part a0 dm N ls a →
      (∀ j, j < N → us i j = true → Φ j (slotv a (dm (tk j))) (O j) w ∧ ∀ k, O j k → base ≤ k ∧ k < w.heap.size) →
      (∀ j j' k, j < N → j' < N → us i j = true → us i j' = true → j ≠ j' → wr j = true → O j k → ¬ O j' k) →
      wpOpIn F n P ops Q i (fun a' w' => ∃ v O', a' = a.put (dm i) v ∧ S w' ∧ (dm i = none → v = undef) ∧ Step N wr us O i O' w w' ∧ Φ i (if dm i = none then slotv a (dm (tk i)) else v) O' w') a w)
    (hend : ∀ (O : Nat → Nat → Prop) (ls : Nat → Bool) (a : Act) (w : World), (∀ i, i < N → ls i = true) → S w → base ≤ w.heap.size → Part a0 dm N ls a → (∀ j, j < N → (wr j = false ∨ ∀ i, i < N → us i j = false) → Φ j (slotv a (dm (tk j))) (O j) w ∧ ∀ k, O j k → base ≤ k ∧ k < w.heap.size) → Q .normal a w) :
    (Code.region id ops true).wpIn F n P Q a0 w := by
  subst hN
  have hus' := us_of hus
  have huq' := uq_of huq
  refine wpIn_region_any hm ?_
  let lv : (Nat → Bool) → Nat → Prop := fun ls j => ls j = true ∧ ∀ i, i < ops.size → us i j = true → wr j = true → ls i = false
  refine wpAnyIn_inv (fun listed a w => Closed ops listed ∧ S w ∧ base ≤ w.heap.size ∧ Part a0 dm ops.size (fun j => listed.getD j false) a ∧ ∃ O : Nat → Nat → Prop,
    (∀ j k, j < ops.size → listed.getD j false = true → O j k → base ≤ k ∧ k < w.heap.size) ∧
    (∀ j j' k, j < ops.size → j' < ops.size → lv (fun j => listed.getD j false) j → lv (fun j => listed.getD j false) j' → j ≠ j' → wr j = true → O j k → ¬ O j' k) ∧
    (∀ j, j < ops.size → lv (fun j => listed.getD j false) j → Φ j (slotv a (dm (tk j))) (O j) w)) ?_ ?_ ops.size _ a0 _ (by simp) ?_ ⟨fun i o ho h => ?_, h0, hbase, ⟨rfl, rfl, fun _ _ => rfl⟩, fun _ _ => False, fun j k _ _ h => h.elim, fun j j' k _ _ _ _ _ _ h => h.elim, fun j hj h => ?_⟩
  · rintro listed a w i hls ⟨hcl, hS, hbw, hP, O, hOb, hOd, hsl⟩ hi
    obtain ⟨h1, h2, o, ho, hpre⟩ := ready_mem hi
    rw [getD_true_false (by omega)] at h2
    have hsetD : ∀ j, (listed.setIfInBounds i true).getD j false = if i = j then true else listed.getD j false := fun j => getD_set_listed (by omega)
    have hcl' : Closed ops (listed.setIfInBounds i true) := fun j oj hoj hl e he hb => by
      rw [hsetD] at hl ⊢
      by_cases eij : i = j
      · subst eij
        rw [ho] at hoj; cases hoj
        have := hpre e he hb
        split
        · rfl
        · exact this
      · rw [if_neg eij] at hl
        have := hcl j oj hoj hl e he hb
        split
        · rfl
        · exact this
    -- what i takes is live
    have hlive : ∀ j, j < ops.size → us i j = true → lv (fun j => listed.getD j false) j := fun j hj hu => by
      obtain ⟨e, he, rfl, hb⟩ := hus' i j h1 hj hu o ho
      refine ⟨hpre e he hb, fun i' hi' hu' hw => ?_⟩
      have := huq' i i' e.on h1 hi' hj hw hu hu'
      subst this
      exact h2
    have hwp := hop O _ i o a w h1 ho hS hbw h2 hP (fun j hj hu => ⟨hsl j hj (hlive j hj hu), fun k hk => hOb j k hj (hlive j hj hu).1 hk⟩) (fun j j' k hj hj' hu hu' hne hw => hOd j j' k hj hj' (hlive j hj hu) (hlive j' hj' hu') hne hw)
    refine wpOpIn_mono (fun a' w' h => ?_) hwp
    obtain ⟨v, O', rfl, hS', hvn, hstep, hv⟩ := h
    have hP' := hP.put h1 v
    rw [show (fun j => if i = j then true else listed.getD j false) = (fun j => (listed.setIfInBounds i true).getD j false) from (funext hsetD).symm] at hP'
    -- what is live behind the step was live, and i has not taken it
    have hback : ∀ j, j < ops.size → i ≠ j → lv (fun j => (listed.setIfInBounds i true).getD j false) j → lv (fun j => listed.getD j false) j ∧ (us i j = true → wr j = false) := fun j hj hne hl => by
      obtain ⟨l1, l2⟩ := hl
      have l1' : (listed.setIfInBounds i true).getD j false = true := l1
      rw [hsetD, if_neg hne] at l1'
      refine ⟨⟨l1', fun i' hi' hu hw => ?_⟩, fun hu => ?_⟩
      · have h3 : (listed.setIfInBounds i true).getD i' false = false := l2 i' hi' hu hw
        rw [hsetD] at h3
        split at h3
        · cases h3
        · exact h3
      · rcases hw : wr j with _ | _
        · rfl
        · have h3 : (listed.setIfInBounds i true).getD i false = false := l2 i h1 hu hw
          rw [hsetD, if_pos rfl] at h3
          cases h3
    refine ⟨hcl', hS', Nat.le_trans hbw hstep.size, hP', fun j => if i = j then O' else O j, fun j k hj hl hk => ?_, fun j j' k hj hj' hl hl' hne hw hk hk' => ?_, fun j hj hl => ?_⟩
    · replace hk : (if i = j then O' else O j) k := hk
      by_cases e : i = j
      · rw [if_pos e] at hk
        obtain ⟨h3, h4⟩ := hstep.foot k hk
        refine ⟨?_, h3⟩
        rcases h4 with h4 | ⟨j0, h5, h6, h7, -⟩
        · omega
        · exact (hOb j0 k h5 (hlive j0 h5 h6).1 h7).1
      · rw [if_neg e] at hk
        rw [hsetD, if_neg e] at hl
        have := hOb j k hj hl hk
        exact ⟨this.1, Nat.lt_of_lt_of_le this.2 hstep.size⟩
    · replace hk : (if i = j then O' else O j) k := hk
      replace hk' : (if i = j' then O' else O j') k := hk'
      by_cases e : i = j
      · subst e
        rw [if_pos rfl] at hk
        rw [if_neg hne] at hk'
        obtain ⟨b1, b2⟩ := hback j' hj' hne hl'
        obtain ⟨h3, h4⟩ := hstep.foot k hk
        rcases h4 with h4 | ⟨j0, h5, h6, h7, h8⟩
        · have := (hOb j' k hj' b1.1 hk').2
          omega
        · have hw0 := h8 hw
          by_cases e0 : j0 = j'
          · subst e0
            rw [b2 h6] at hw0; cases hw0
          · exact hOd j0 j' k h5 hj' (hlive j0 h5 h6) b1 e0 hw0 h7 hk'
      · rw [if_neg e] at hk
        obtain ⟨b1, b2⟩ := hback j hj e hl
        by_cases e' : i = j'
        · subst e'
          rw [if_pos rfl] at hk'
          obtain ⟨h3, h4⟩ := hstep.foot k hk'
          rcases h4 with h4 | ⟨j0, h5, h6, h7, -⟩
          · have := (hOb j k hj b1.1 hk).2
            omega
          · by_cases e0 : j = j0
            · subst e0
              rw [b2 h6] at hw; cases hw
            · exact hOd j j0 k hj h5 b1 (hlive j0 h5 h6) e0 hw hk h7
        · rw [if_neg e'] at hk'
          exact hOd j j' k hj hj' b1 (hback j' hj' e' hl').1 hne hw hk hk'
    · show Φ j (slotv (a.put (dm i) v) (dm (tk j))) (if i = j then O' else O j) w'
      by_cases e : i = j
      · subst e
        rw [if_pos rfl]
        have : slotv (a.put (dm i) v) (dm (tk i)) = if dm i = none then slotv a (dm (tk i)) else v := by
          cases hdi : dm i with
          | none => rw [if_pos rfl]; rfl
          | some t =>
            rw [if_neg (by simp)]
            rcases htk i h1 with e2 | ⟨e2, -, -⟩
            · rw [e2, hdi]; exact put_getD_same _ _ _ (by rw [hP.size]; exact hsz i t h1 hdi)
            · rw [hdi] at e2; cases e2
        rw [this]
        exact hv
      · rw [if_neg e]
        obtain ⟨b1, b2⟩ := hback j hj e hl
        have htj : tk j < ops.size ∧ i ≠ tk j := by
          rcases htk j hj with e2 | ⟨-, e2, e3⟩
          · rw [e2]; exact ⟨hj, e⟩
          · refine ⟨e2, fun e4 => ?_⟩
            obtain ⟨ee, he1, he2, he3⟩ := hus' j (tk j) hj e2 e3 ops[j] (Array.getElem?_eq_getElem hj)
            have h3 := hcl j ops[j] (Array.getElem?_eq_getElem hj) b1.1 ee he1 he3
            rw [he2, ← e4, h2] at h3
            cases h3
        have hv' : slotv (a.put (dm i) v) (dm (tk j)) = slotv a (dm (tk j)) := by
          cases hdj : dm (tk j) with
          | none => rfl
          | some t =>
            cases hdi : dm i with
            | none => rfl
            | some t' => exact put_getD_ne _ _ _ _ (fun e' => htj.2 (hdm i (tk j) t h1 htj.1 (by rw [hdi, e']) hdj))
        rw [hv']
        refine hst j _ _ w w' hj (fun k hk => (hOb j k hj b1.1 hk).2) (fun k hk => hstep.keep k (hOb j k hj b1.1 hk).2 fun j0 h5 h6 h7 h8 => ?_) hstep.size hS hS' (hsl j hj b1)
        by_cases e0 : j0 = j
        · subst e0
          rw [b2 h6] at h7; cases h7
        · exact hOd j0 j k h5 hj (hlive j0 h5 h6) b1 e0 h7 h8 hk
  · rintro listed a w hls ⟨hcl, hS, hbw, hP, O, hOb, hOd, hsl⟩ hr
    have hready : ∀ i, i < ops.size → listed.getD i false = true := by
      intro i
      induction i using Nat.strongRecOn with
      | _ i ih =>
        intro hi
        rcases hl : listed.getD i false with _ | _
        · have hmem : i ∈ Region.ready .any ops listed := by
            simp only [Region.ready, List.mem_filter, List.mem_range, Bool.and_eq_true, Bool.not_eq_true']
            refine ⟨hi, by rw [getD_true_false (by omega)]; exact hl, ?_⟩
            rw [Array.getElem?_eq_getElem hi]
            simp only [Option.map_some, Option.getD_some]
            rw [Array.all_eq_true_iff_forall_mem]
            intro e he
            by_cases hb : Region.binds .any e = true
            · have hlt := hlex i _ (Array.getElem?_eq_getElem hi) e (by simpa using he) hb
              simp [ih e.on hlt (by omega)]
            · simp [hb]
          rw [hr] at hmem; cases hmem
        · rfl
    refine hend O _ a w hready hS hbw hP (fun j hj hd => ⟨hsl j hj ⟨hready j hj, fun i hi hu hw => ?_⟩, fun k hk => hOb j k hj (hready j hj) hk⟩)
    rcases hd with hd | hd
    · rw [hd] at hw; cases hw
    · rw [hd i hi] at hu; cases hu
  · simp
  · have : (Array.replicate ops.size false).getD i false = false := by
      simp only [Array.getD_eq_getD_getElem?, Array.getElem?_replicate]; split <;> rfl
    rw [this] at h; cases h
  · have h1 := h.1
    have : (Array.replicate ops.size false).getD j false = false := by
      simp only [Array.getD_eq_getD_getElem?, Array.getElem?_replicate]; split <;> rfl
    have h2 : (Array.replicate ops.size false).getD j false = true := h1
    rw [this] at h2; cases h2
end
end Go.Proofs
