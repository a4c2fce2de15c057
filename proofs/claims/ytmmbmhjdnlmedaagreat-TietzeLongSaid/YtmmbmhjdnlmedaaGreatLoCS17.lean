/- Rewriting in a Schreier system, plainly: products, tree words, telescoping (the law of RewriteBack); Orders of groups by a record of an enumeration: how a record is checked, and what it proves; Schreier generators, plainly: how many there are, and that they generate the subgroup (the law of RewriteGenerates); Plain: what words that act trivially become by the steps of a simplification; Plain: an elimination keeps what acts: from the old generators to those that are left, and back; Plain: what acts through a whole simplification; (*state).eliminate: plain, and the operations of its two regions that write the state. -/
import Derived.Test.YtmmbmhjdnlmedaaGreatLoCS4
import Derived.Test.YtmmbmhjdnlmedaaGreatLoCS8
import Derived.Test.YtmmbmhjdnlmedaaGreatLoCS16
namespace Go.Proofs.Ct
section
variable {g : Nat} {t : Tb} {R : List W}
/-- the letters that one letter is rewritten to -/
def oneL (t : Tb) (R : List W) (g r : Nat) (x : Int) : W := if letN t R g r x ≠ 0 then [letN t R g r x] else []
/-- what a word is rewritten to, not yet reduced -/
def rl (t : Tb) (R : List W) (g : Nat) : Nat → W → W
  | _, [] => []
  | r, x :: w => oneL t R g r x ++ rl t R g (nx t r (col x)) w
/-- how a representative comes from an elder one -/
def Grown (g : Nat) (t : Tb) (out : List W) : Prop := ∀ j, j < out.length → (j = 0 ∧ out.getD j [] = []) ∨ ∃ i c, i < j ∧ c < 2 * g ∧ t.at i c = (j : Int) ∧ out.getD j [] = out.getD i [] ++ [letter c]
theorem Grown.col {out : List W} (h : Grown g t out) {r c : Nat} (hr : r < out.length) (hc : c < 2 * g) : Grown g t (repCol t r c out) := by
  unfold repCol
  split
  · rename_i he
    intro j hj
    rcases Nat.lt_or_ge j out.length with h1 | h1
    · have e : ∀ i, i < out.length → (out ++ [out.getD r [] ++ [letter c]]).getD i [] = out.getD i [] := fun i hi => by simp [List.getD_eq_getElem?_getD, List.getElem?_append_left hi]
      rw [e j h1]
      rcases h j h1 with h2 | ⟨i, c', h2, h3, h4, h5⟩
      · exact .inl h2
      · exact .inr ⟨i, c', h2, h3, h4, by rw [e i (by omega)]; exact h5⟩
    · obtain rfl : j = out.length := by simp at hj; omega
      refine .inr ⟨r, c, hr, hc, he, ?_⟩
      have e1 : (out ++ [out.getD r [] ++ [letter c]]).getD out.length [] = out.getD r [] ++ [letter c] := by simp [List.getD_eq_getElem?_getD]
      have e2 : (out ++ [out.getD r [] ++ [letter c]]).getD r [] = out.getD r [] := by simp [List.getD_eq_getElem?_getD, List.getElem?_append_left hr]
      rw [e1, e2]
  · exact h
theorem Grown.row {out : List W} (h : Grown g t out) {r : Nat} (hr : r < out.length) (hl : (t.row r).length = 2 * g) : Grown g t (repRow t r out) :=
  (foldTo_inv (p := fun _ out => Grown g t out ∧ r < out.length) ⟨h, hr⟩ _ fun c x hc ⟨h1, h2⟩ => ⟨h1.col h2 (by omega), Nat.lt_of_lt_of_le h2 (repCol_len r c x)⟩).1
end
end Go.Proofs.Ct
namespace Go.Proofs.Ct
/-- rows of numbers of ten bits -/
def gt (a k : Nat) : Nat := Nat.mod (Nat.shiftRight a (Nat.mul 10 k)) 1024
def pt (a k v : Nat) : Nat := Nat.add a (Nat.shiftLeft v (Nat.mul 10 k))
theorem gt_eq (a k : Nat) : gt a k = a / 1024 ^ k % 1024 := by
  show (a >>> (10 * k)) % 1024 = _
  rw [Nat.shiftRight_eq_div_pow, Nat.pow_mul]
theorem pt_eq (a k v : Nat) : pt a k v = a + v * 1024 ^ k := by
  show a + v <<< (10 * k) = _
  rw [Nat.shiftLeft_eq, Nat.pow_mul]
theorem gt_pt {a k v : Nat} (h0 : gt a k = 0) (hv : v < 1024) (j : Nat) : gt (pt a k v) j = if j = k then v else gt a j := by
  rw [gt_eq] at h0
  rw [gt_eq, pt_eq, gt_eq]
  have hk : 0 < 1024 ^ k := Nat.pow_pos (by omega)
  rcases Nat.lt_trichotomy j k with h | h | h
  · rw [if_neg (by omega)]
    obtain ⟨d, rfl⟩ := Nat.exists_eq_add_of_lt h
    have hj : 0 < 1024 ^ j := Nat.pow_pos (by omega)
    have e : v * 1024 ^ (j + d + 1) = (v * 1024 ^ d * 1024) * 1024 ^ j := by
      rw [Nat.pow_succ, Nat.pow_add]
      simp only [Nat.mul_comm, Nat.mul_left_comm]
    rw [e, Nat.add_mul_div_right _ _ hj, Nat.add_mul_mod_self_right]
  · subst h
    rw [if_pos rfl, Nat.add_mul_div_right _ _ hk, Nat.add_mod, h0, Nat.zero_add, Nat.mod_mod, Nat.mod_eq_of_lt hv]
  · rw [if_neg (by omega)]
    obtain ⟨d, rfl⟩ := Nat.exists_eq_add_of_lt h
    have e : 1024 ^ (k + d + 1) = 1024 ^ k * (1024 * 1024 ^ d) := by
      rw [Nat.pow_succ, Nat.pow_add, Nat.mul_assoc, Nat.mul_comm (1024 ^ d)]
    have h1 : (a + v * 1024 ^ k) / 1024 ^ k = a / 1024 ^ k + v := Nat.add_mul_div_right _ _ hk
    have h2 : (a / 1024 ^ k + v) / 1024 = a / 1024 ^ k / 1024 := by omega
    rw [e, ← Nat.div_div_eq_div_mul, ← Nat.div_div_eq_div_mul, ← Nat.div_div_eq_div_mul, ← Nat.div_div_eq_div_mul, h1, h2]
theorem nbeq (a b : Nat) : (Nat.beq a b = true) = (a = b) := propext ⟨Nat.eq_of_beq_eq_true, fun h => by rw [h]; exact Nat.beq_refl b⟩
/-- the record's state: how many names, the edges, the names that are other names -/
structure Cs where
  n : Nat
  E : Nat
  A : Nat
def rpC (A : Nat) : Nat → Nat → Nat
  | 0, x => x
  | k + 1, x => match gt A x with
    | 0 => x
    | y + 1 => rpC A k y
def lkC (s : Cs) (x c : Nat) : Nat := match gt s.E (Nat.add (Nat.mul 8 x) c) with
  | 0 => 0
  | y + 1 => Nat.succ (rpC s.A 20 y)
def wkC (s : Cs) : List Nat → Nat → Nat
  | [], x => Nat.succ x
  | c :: w, x => match lkC s x c with
    | 0 => 0
    | y + 1 => wkC s w y
def alC (s : Cs) (a b : Nat) : Cs := cond (Nat.beq (gt s.A b) 0 && Nat.blt a s.n && Nat.blt b s.n) ⟨s.n, s.E, pt s.A b (Nat.succ a)⟩ s
def algC (s : Cs) (a b : Nat) : Cs := cond (Nat.beq a b) s (cond (Nat.blt a b) (alC s a b) (alC s b a))
def haC (s : Cs) (u c v : Nat) : Cs := match lkC s u c with
  | y + 1 => algC s y v
  | 0 => ⟨s.n, pt s.E (Nat.add (Nat.mul 8 u) c) (Nat.succ v), s.A⟩
def lnC (s : Cs) (u c v : Nat) : Cs := haC (haC s u c v) v (flp c) u
def dfC (m : Nat) (s : Cs) (r c : Nat) : Cs := match lkC s r c with
  | 0 => cond (Nat.blt r s.n && Nat.blt c m && Nat.blt s.n 1000) (lnC ⟨Nat.succ s.n, s.E, s.A⟩ r c s.n) s
  | _ + 1 => s
def bkC (w : List Nat) : List Nat := (w.map flp).reverse
def reC (rs : List (List Nat)) (s : Cs) (r k i : Nat) : Cs := cond (Nat.blt r s.n && Nat.blt k rs.length && Nat.blt i (rs.getD k []).length)
  (match wkC s ((rs.getD k []).take i) r with
  | 0 => s
  | u + 1 => match wkC s (bkC ((rs.getD k []).drop (i + 1))) r with
    | 0 => s
    | v + 1 => lnC s u ((rs.getD k []).getD i 0) v) s
def cpC (s : Cs) (x c : Nat) : Cs := match gt s.E (Nat.add (Nat.mul 8 x) c) with
  | 0 => s
  | d + 1 => cond (Nat.blt c 8) (lnC s (rpC s.A 20 x) c (rpC s.A 20 d)) s
def stC (m : Nat) (rs : List (List Nat)) (i : Nat) (s : Cs) : Cs := match Nat.mod i 4 with
  | 0 => dfC m s (Nat.div i 32) (Nat.mod (Nat.div i 4) 8)
  | 1 => reC rs s (Nat.div i 1024) (Nat.mod (Nat.div i 128) 8) (Nat.mod (Nat.div i 4) 32)
  | _ => cpC s (Nat.div i 32) (Nat.mod (Nat.div i 4) 8)
def runC (m : Nat) (rs : List (List Nat)) : Nat → Nat → Cs → Cs
  | 0, _, s => s
  | k + 1, log, s => runC m rs k (Nat.shiftRight log 20) (stC m rs (Nat.mod log 1048576) s)
/-- what holds of a record's state -/
structure OkC (g : Nat) {α : Type} (D : α → Prop) (act : α → Nat → α) (p0 : α) (s : Cs) (f : Nat → α) : Prop where
  n1 : 1 ≤ s.n
  n2 : s.n ≤ 1000
  f0 : f 0 = p0
  dom : ∀ x, x < s.n → D (f x)
  e : ∀ x c y, c < 8 → gt s.E (8 * x + c) = y + 1 → x < s.n ∧ y < s.n ∧ c < 2 * g ∧ act (f x) c = f y
  a : ∀ x y, gt s.A x = y + 1 → x < s.n ∧ y < s.n ∧ f x = f y
section
variable {g : Nat} {rels : List W} {α : Type} {D : α → Prop} {act : α → Nat → α} {p0 : α} {s : Cs} {f : Nat → α}
theorem OkC.rp (h : OkC g D act p0 s f) : ∀ (k : Nat) {x : Nat}, x < s.n → rpC s.A k x < s.n ∧ f (rpC s.A k x) = f x
  | 0, x, hx => ⟨hx, rfl⟩
  | k + 1, x, hx => by
    rw [rpC]
    cases hg : gt s.A x with
    | zero => exact ⟨hx, rfl⟩
    | succ y =>
      obtain ⟨h1, h2, h3⟩ := h.a x y hg
      obtain ⟨h4, h5⟩ := h.rp k h2
      exact ⟨h4, h5.trans h3.symm⟩
theorem OkC.lk (h : OkC g D act p0 s f) {x c y : Nat} (hc : c < 8) (e : lkC s x c = y + 1) : x < s.n ∧ y < s.n ∧ c < 2 * g ∧ act (f x) c = f y := by
  unfold lkC at e
  cases hg : gt s.E (Nat.add (Nat.mul 8 x) c) with
  | zero => rw [hg] at e; cases e
  | succ z =>
    rw [hg] at e
    obtain ⟨h1, h2, h3, h4⟩ := h.e x c z hc hg
    obtain ⟨h5, h6⟩ := h.rp 20 h2
    have e' : rpC s.A 20 z = y := Nat.succ.inj e
    rw [e'] at h5 h6
    exact ⟨h1, h5, h3, by rw [h4, h6]⟩
theorem lkC_zero {x c : Nat} (e : lkC s x c = 0) : gt s.E (8 * x + c) = 0 := by
  unfold lkC at e
  show gt s.E (Nat.add (Nat.mul 8 x) c) = 0
  cases hg : gt s.E (Nat.add (Nat.mul 8 x) c) with
  | zero => rfl
  | succ z => rw [hg] at e; cases e
theorem OkC.al (h : OkC g D act p0 s f) {a b : Nat} (e : f a = f b) : OkC g D act p0 (alC s a b) f := by
  unfold alC
  cases hc : (Nat.beq (gt s.A b) 0 && Nat.blt a s.n && Nat.blt b s.n) with
  | false => exact h
  | true =>
    simp only [Bool.and_eq_true, nbeq, Nat.blt_eq] at hc
    have hn := h.n2
    refine ⟨h.n1, h.n2, h.f0, h.dom, h.e, fun x y hx => ?_⟩
    show x < s.n ∧ y < s.n ∧ f x = f y
    have hx' : gt (pt s.A b (a + 1)) x = y + 1 := hx
    rw [gt_pt hc.1.1 (by omega)] at hx'
    split at hx'
    · rename_i e1
      have : a = y := by omega
      rw [e1, ← this]
      exact ⟨hc.2, hc.1.2, e.symm⟩
    · exact h.a x y hx'
theorem OkC.alg (h : OkC g D act p0 s f) {a b : Nat} (e : f a = f b) : OkC g D act p0 (algC s a b) f := by
  unfold algC
  cases Nat.beq a b with
  | true => exact h
  | false =>
    cases Nat.blt a b with
    | true => exact h.al e
    | false => exact h.al e.symm
theorem flp8 {c : Nat} (h : c < 8) : flp c < 8 := flp_lt2 (g := 4) h
theorem key_inj {x c y d : Nat} (hc : c < 8) (hd : d < 8) (e : 8 * x + c = 8 * y + d) : x = y ∧ c = d := by omega
theorem OkC.put (h : OkC g D act p0 s f) {u v c : Nat} (hu : u < s.n) (hv : v < s.n) (hc : c < 2 * g) (hc8 : c < 8) (e : act (f u) c = f v) (h1 : gt s.E (8 * u + c) = 0) :
    OkC g D act p0 ⟨s.n, pt s.E (8 * u + c) (v + 1), s.A⟩ f := by
  have hn := h.n2
  have e1 := gt_pt h1 (show v + 1 < 1024 by omega)
  refine ⟨h.n1, h.n2, h.f0, h.dom, fun x k y hk hx => ?_, h.a⟩
  have hx' : gt (pt s.E (8 * u + c) (v + 1)) (8 * x + k) = y + 1 := hx
  rw [e1] at hx'
  show x < s.n ∧ y < s.n ∧ k < 2 * g ∧ act (f x) k = f y
  split at hx'
  · rename_i e2
    obtain ⟨rfl, rfl⟩ := key_inj hk hc8 e2
    have : y = v := by omega
    rw [this]
    exact ⟨hu, hv, hc, e⟩
  · exact h.e x k y hk hx'
theorem n_al (s : Cs) (a b : Nat) : (alC s a b).n = s.n := by unfold alC; cases (Nat.beq (gt s.A b) 0 && Nat.blt a s.n && Nat.blt b s.n) <;> rfl
theorem n_alg (s : Cs) (a b : Nat) : (algC s a b).n = s.n := by
  unfold algC
  cases Nat.beq a b with
  | true => rfl
  | false =>
    cases Nat.blt a b with
    | true => exact n_al s a b
    | false => exact n_al s b a
theorem n_ha (s : Cs) (u c v : Nat) : (haC s u c v).n = s.n := by
  unfold haC
  cases lkC s u c with
  | zero => rfl
  | succ y => exact n_alg s y v
theorem OkC.ha (h : OkC g D act p0 s f) {u v c : Nat} (hu : u < s.n) (hv : v < s.n) (hc : c < 2 * g) (hc8 : c < 8) (e : act (f u) c = f v) : OkC g D act p0 (haC s u c v) f := by
  unfold haC
  cases h1 : lkC s u c with
  | succ y =>
    obtain ⟨-, -, -, h2⟩ := h.lk hc8 h1
    exact h.alg (by rw [← h2, e])
  | zero => exact h.put hu hv hc hc8 e (lkC_zero h1)
theorem OkC.ln (h : OkC g D act p0 s f) (hM : Mdl g rels D act) {u v c : Nat} (hu : u < s.n) (hv : v < s.n) (hc : c < 2 * g) (hc8 : c < 8) (e : act (f u) c = f v) : OkC g D act p0 (lnC s u c v) f := by
  have h1 := h.ha hu hv hc hc8 e
  have hn := n_ha s u c v
  exact h1.ha (by rw [hn]; exact hv) (by rw [hn]; exact hu) (flp_lt2 hc) (flp8 hc8) (by rw [← e]; exact hM.inv _ _ (h.dom u hu) hc)
theorem OkC.df (h : OkC g D act p0 s f) (hM : Mdl g rels D act) (hg : 2 * g ≤ 8) (r c : Nat) : ∃ f', OkC g D act p0 (dfC (2 * g) s r c) f' := by
  unfold dfC
  cases h1 : lkC s r c with
  | succ y => exact ⟨f, h⟩
  | zero =>
    simp only
    cases hc : (Nat.blt r s.n && Nat.blt c (2 * g) && Nat.blt s.n 1000) with
    | false => exact ⟨f, h⟩
    | true =>
      simp only [Bool.and_eq_true, Nat.blt_eq] at hc
      obtain ⟨⟨h2, h3⟩, h4⟩ := hc
      have hn1 := h.n1
      refine ⟨fun x => if x = s.n then act (f r) c else f x, ?_⟩
      have h5 : OkC g D act p0 ⟨s.n + 1, s.E, s.A⟩ (fun x => if x = s.n then act (f r) c else f x) := by
        refine ⟨by show 1 ≤ s.n + 1; omega, by show s.n + 1 ≤ 1000; omega, by rw [if_neg (by omega)]; exact h.f0, fun x hx => ?_, fun x k y hk hx => ?_, fun x y hx => ?_⟩
        · have hx' : x < s.n + 1 := hx
          split
          · exact hM.cl _ _ (h.dom r h2) h3
          · exact h.dom x (by omega)
        · obtain ⟨a, b, c', d⟩ := h.e x k y hk hx
          rw [if_neg (by omega), if_neg (by omega)]
          exact ⟨Nat.lt_succ_of_lt a, Nat.lt_succ_of_lt b, c', d⟩
        · obtain ⟨a, b, c'⟩ := h.a x y hx
          rw [if_neg (by omega), if_neg (by omega)]
          exact ⟨Nat.lt_succ_of_lt a, Nat.lt_succ_of_lt b, c'⟩
      exact h5.ln hM (u := r) (v := s.n) (c := c) (by show r < s.n + 1; omega) (by show s.n < s.n + 1; omega) h3 (by omega) (by rw [if_neg (by omega), if_pos rfl])
theorem actW_cols (w : W) : ∀ p : α, actW act p w = (w.map col).foldl act p := by
  induction w with
  | nil => intro p; rfl
  | cons l w ih => intro p; exact ih _
theorem OkC.wk (h : OkC g D act p0 s f) (hg : 2 * g ≤ 8) : ∀ {w : List Nat} {x y : Nat}, (∀ c ∈ w, c < 2 * g) → x < s.n → wkC s w x = y + 1 → y < s.n ∧ w.foldl act (f x) = f y := by
  intro w
  induction w with
  | nil =>
    intro x y _ hx e
    have e' : x = y := Nat.succ.inj e
    rw [← e']; exact ⟨hx, rfl⟩
  | cons c w ih =>
    intro x y hw hx e
    rw [wkC] at e
    have hc := hw c (List.mem_cons_self ..)
    cases h1 : lkC s x c with
    | zero => rw [h1] at e; cases e
    | succ z =>
      rw [h1] at e
      obtain ⟨-, h2, -, h3⟩ := h.lk (by omega) h1
      rw [List.foldl_cons, h3]
      exact ih (fun c hc => hw c (List.mem_cons_of_mem _ hc)) h2 e
theorem fold_bk (hM : Mdl g rels D act) : ∀ {w : List Nat} {p : α}, (∀ c ∈ w, c < 2 * g) → D p → (bkC w).foldl act (w.foldl act p) = p := by
  intro w
  induction w with
  | nil => intro p _ _; rfl
  | cons c w ih =>
    intro p hw hp
    have hc := hw c (List.mem_cons_self ..)
    have e : bkC (c :: w) = bkC w ++ [flp c] := by simp [bkC]
    rw [e, List.foldl_append, List.foldl_cons (l := w), List.foldl_cons, ih (fun c hc => hw c (List.mem_cons_of_mem _ hc)) (hM.cl _ _ hp hc)]
    exact hM.inv _ _ hp hc
theorem mem_bk {w : List Nat} (h : ∀ c ∈ w, c < 2 * g) : ∀ c ∈ bkC w, c < 2 * g := fun c hc => by
  unfold bkC at hc
  obtain ⟨d, hd, rfl⟩ := List.mem_map.1 (List.mem_reverse.1 hc)
  exact flp_lt2 (h d hd)
theorem OkC.re (h : OkC g D act p0 s f) (hM : Mdl g rels D act) (hg : 2 * g ≤ 8) {rs : List (List Nat)} (hrs : rs = rels.map fun w => w.map col) (hr : ∀ j, j < rels.length → LOk g (rels.getD j [])) (r k i : Nat) : OkC g D act p0 (reC rs s r k i) f := by
  unfold reC
  cases hc : (Nat.blt r s.n && Nat.blt k rs.length && Nat.blt i (rs.getD k []).length) with
  | false => exact h
  | true =>
    simp only [Bool.and_eq_true, Nat.blt_eq] at hc
    obtain ⟨⟨h1, h2⟩, h3⟩ := hc
    simp only [cond_true]
    have hk : k < rels.length := by rw [hrs, List.length_map] at h2; exact h2
    have hw : rs.getD k [] = (rels.getD k []).map col := by rw [hrs]; simp [List.getD_eq_getElem?_getD, hk]
    have hall : ∀ c ∈ rs.getD k [], c < 2 * g := fun c hc => by
      rw [hw] at hc
      obtain ⟨l, hl, rfl⟩ := List.mem_map.1 hc
      exact col_ltL (hr k hk l hl)
    have hcl : (rs.getD k []).foldl act (f r) = f r := by
      rw [hw, ← actW_cols]
      exact hM.rel _ k (h.dom r h1) hk
    generalize rs.getD k [] = w at *
    cases h4 : wkC s (w.take i) r with
    | zero => exact h
    | succ u =>
      simp only
      cases h5 : wkC s (bkC (w.drop (i + 1))) r with
      | zero => exact h
      | succ v =>
        simp only
        have hd : ∀ c ∈ w.drop (i + 1), c < 2 * g := fun c hc => hall c (List.mem_of_mem_drop hc)
        obtain ⟨h6, h7⟩ := h.wk hg (fun c hc => hall c (List.mem_of_mem_take hc)) h1 h4
        obtain ⟨h8, h9⟩ := h.wk hg (mem_bk hd) h1 h5
        have hci : w.getD i 0 < 2 * g := by
          rw [List.getD_eq_getElem?_getD, List.getElem?_eq_getElem h3]
          exact hall _ (List.getElem_mem h3)
        refine h.ln hM h6 h8 hci (by omega) ?_
        have e : w = w.take i ++ w.getD i 0 :: w.drop (i + 1) := by
          rw [List.getD_eq_getElem?_getD, List.getElem?_eq_getElem h3]
          simp
        rw [e, List.foldl_append, List.foldl_cons, h7] at hcl
        have hD1 : D (act (f u) (w.getD i 0)) := hM.cl _ _ (h.dom u h6) hci
        rw [← fold_bk hM hd hD1, hcl, h9]
theorem OkC.cp (h : OkC g D act p0 s f) (hM : Mdl g rels D act) (x c : Nat) : OkC g D act p0 (cpC s x c) f := by
  unfold cpC
  cases h1 : gt s.E (Nat.add (Nat.mul 8 x) c) with
  | zero => exact h
  | succ d =>
    simp only
    cases h2 : Nat.blt c 8 with
    | false => exact h
    | true =>
      rw [Nat.blt_eq] at h2
      obtain ⟨h3, h4, h5, h6⟩ := h.e x c d h2 h1
      obtain ⟨h7, h8⟩ := h.rp 20 h3
      obtain ⟨h9, h10⟩ := h.rp 20 h4
      exact h.ln hM h7 h9 h5 h2 (by rw [h8, h10]; exact h6)
theorem OkC.run (hM : Mdl g rels D act) (hg : 2 * g ≤ 8) {rs : List (List Nat)} (hrs : rs = rels.map fun w => w.map col) (hr : ∀ j, j < rels.length → LOk g (rels.getD j [])) : ∀ (k log : Nat) {s : Cs} {f : Nat → α}, OkC g D act p0 s f → ∃ f', OkC g D act p0 (runC (2 * g) rs k log s) f'
  | 0, _, _, f, h => ⟨f, h⟩
  | k + 1, log, s, f, h => by
    rw [runC]
    have h1 : ∃ f', OkC g D act p0 (stC (2 * g) rs (Nat.mod log 1048576) s) f' := by
      unfold stC
      split
      · exact h.df hM hg _ _
      · exact ⟨f, h.re hM hg hrs hr _ _ _⟩
      · exact ⟨f, h.cp hM _ _⟩
    obtain ⟨f1, h2⟩ := h1
    exact OkC.run hM hg hrs hr k _ h2
end
/-- the regular table of a group: it satisfies the relators, and maps onto whatever does -/
def Reg (g : Nat) (rels : List W) (n : Nat) : Prop := ∃ act : Nat → Nat → Nat, 1 ≤ n ∧ n ≤ 1000 ∧ Mdl g rels (fun x => x < n) act ∧ (∀ i, 0 < i → i < n → ∃ p c, p < i ∧ c < 2 * g ∧ act p c = i) ∧
  ∀ {α : Type} {D : α → Prop} {act' : α → Nat → α} {p0 : α}, Mdl g rels D act' → D p0 → ∃ φ : Nat → α, φ 0 = p0 ∧ (∀ x, x < n → D (φ x)) ∧ ∀ x c, x < n → c < 2 * g → φ (act x c) = act' (φ x) c
/-- how many cosets there can be -/
theorem Reg.fits {g n : Nat} {rels sub : List W} {t : Tb} (hg : 1 ≤ g ∧ g ≤ 16) (h : Reg g rels n) (hr : ∀ j, j < rels.length → LOk g (rels.getD j [])) (ht : Coset g rels sub t) : (∃ k, n = t.length * k) ∧ (sub.length = 0 → t.length = n) := by
  obtain ⟨act, hn1, hn2, hM, hP, hU⟩ := h
  have hlen : ((List.range n).map fun x => (List.range (2 * g)).map fun c => (act x c : Int)).length = n := by simp
  have hrow : ∀ x, x < n → Tb.row ((List.range n).map fun x => (List.range (2 * g)).map fun c => (act x c : Int)) x = (List.range (2 * g)).map fun c => (act x c : Int) := fun x hx => by
    unfold Tb.row; simp [List.getD_eq_getElem?_getD, hx]
  have hat : ∀ x c, x < n → c < 2 * g → Tb.at ((List.range n).map fun x => (List.range (2 * g)).map fun c => (act x c : Int)) x c = (act x c : Int) := fun x c hx hc => by
    unfold Tb.at
    rw [hrow x hx]; simp [List.getD_eq_getElem?_getD, hc]
  generalize ((List.range n).map fun x => (List.range (2 * g)).map fun c => (act x c : Int)) = u at *
  have hu : Full g u := by
    refine ⟨⟨hg.1, hg.2, by omega, by omega, fun r hr => by rw [hrow r (by omega)]; simp, fun r hr c hc => ?_, fun r hr c hc _ => ?_⟩, fun r hr c hc => by rw [hat r c (by omega) hc]; omega, fun x hx => ?_⟩
    · rw [hat r c (by omega) hc]
      have := hM.cl r c (by omega) hc
      omega
    · have h1 := hM.cl r c (by omega) hc
      rw [hat r c (by omega) hc, Int.toNat_natCast, hat _ _ h1 (flp_lt2 hc), hM.inv r c (by omega) hc]
    · rw [hlen] at hx
      induction x using Nat.strongRecOn with
      | _ x ih =>
        rcases Nat.eq_zero_or_pos x with h0 | h0
        · rw [h0]; exact .refl _
        · obtain ⟨p, c, h1, h2, h3⟩ := hP x h0 hx
          exact .step (ih p h1 (by omega)) h2 (by unfold Edge; rw [hat p c (by omega) h2, h3])
  -- the regular table maps onto t
  obtain ⟨φ, h1, h2, h3⟩ := hU (ht.full.mdl hr ht.rel) ht.full.good.n1
  have hH : Hm g u t φ := ⟨fun x hx => h2 x (by omega), fun x c y hx hc he => by
    have h4 := h3 x c (by omega) hc
    unfold Edge at he
    rw [hat x c (by omega) hc] at he
    have : act x c = y := by omega
    rw [this] at h4
    rw [h4]
    exact (ht.full.nx (h2 x (by omega)) hc).2⟩
  obtain ⟨k, hk⟩ := hH.dvd hu ht.full
  rw [hlen] at hk
  refine ⟨⟨k, hk⟩, fun hsub => ?_⟩
  obtain ⟨ψ, k1, k2, k3⟩ := ht.univ hM (show (0 : Nat) < n by omega) (fun j hj => absurd hj (by omega))
  have hH2 : Hm g t u ψ := ⟨fun x hx => by rw [hlen]; exact k2 x hx, fun x c y hx hc he => by
    unfold Edge
    rw [hat _ c (k2 x hx) hc, k3 x c y hx hc he]⟩
  obtain ⟨k', hk'⟩ := hH2.dvd ht.full hu
  rw [hlen] at hk'
  have hn0 := ht.full.good.n1
  have e1 : t.length ≤ n := by
    rcases Nat.eq_zero_or_pos k with h0 | h0
    · rw [h0] at hk; omega
    · rw [hk]; exact Nat.le_mul_of_pos_right _ h0
  have e2 : n ≤ t.length := by
    rcases Nat.eq_zero_or_pos k' with h0 | h0
    · rw [h0] at hk'; omega
    · rw [hk']; exact Nat.le_mul_of_pos_right _ h0
  omega
end Go.Proofs.Ct
namespace Go.Proofs.Ct
section
variable {g : Nat} {α : Type} {D : α → Prop} {act : α → Nat → α} {rels : List W}
theorem lok_redP {a : W} (h : LOk g a) : LOk g (red a) := fun x hx => h x (red_mem hx)
theorem Mdl.back (h : Mdl g rels D act) {p : α} (hp : D p) {x : Int} (hx : -(g : Int) ≤ x ∧ x ≤ g ∧ x ≠ 0) : act (act p (col x)) (col (-x)) = p := by
  rw [col_inv hx.2.2]
  exact h.inv p _ hp (col_ltL hx)
theorem Mdl.redW (h : Mdl g rels D act) {p : α} (hp : D p) : ∀ (n : Nat) (u : W), u.length = n → LOk g u → actW act p (red u) = actW act p u
  | 0, u, hu, _ => by rw [List.length_eq_zero_iff.1 hu]; rfl
  | n + 1, u, hu, hz => by
    rcases List.eq_nil_or_concat u with rfl | ⟨c, x, rfl⟩
    · cases hu
    · rw [List.concat_eq_append] at hu hz ⊢
      have hc : LOk g c := fun y hy => hz y (List.mem_append_left _ hy)
      have hx := hz x (List.mem_append_right _ (List.mem_singleton_self _))
      have ih := Mdl.redW h hp n c (by simpa using hu) hc
      rw [red_snoc, actW_app, ← ih]
      have hr := lok_redP hc
      generalize red c = s at *
      rcases List.eq_nil_or_concat s with rfl | ⟨d, y, rfl⟩
      · rw [push_nil]; rfl
      · rw [List.concat_eq_append] at hr ⊢
        rw [push_snoc]
        split
        · rename_i ho
          obtain ⟨h1, h2⟩ := opp_iff.1 ho
          subst h2
          have hd : LOk g d := fun z hz => hr z (List.mem_append_left _ hz)
          rw [actW_app]
          exact (h.back (h.clW hd hp) (hr y (List.mem_append_right _ (List.mem_singleton_self _)))).symm
        · rw [actW_app]
theorem Mdl.nil (h : Mdl g rels D act) : Mdl g [] D act := ⟨h.cl, h.inv, fun _ _i _ hi => absurd hi (Nat.not_lt_zero _)⟩
theorem Full.free {t : Tb} (h : Full g t) : Mdl g [] (fun x => x < t.length) (Ct.nx t) := h.mdl (fun _j hj => absurd hj (Nat.not_lt_zero _)) fun _ _ _j hj => absurd hj (Nat.not_lt_zero _)
end
section
variable {g : Nat} {t : Tb}
def enc (g : Nat) (p : Nat × Nat) : Nat := p.1 * g + p.2
end
end Go.Proofs.Ct
namespace Go.Proofs.Tz
open Go.Proofs.Ct (W red inv mulW invW opp foldTo push redTo LOk Mdl actW actW_app col flp)
section
variable {α : Type} {n : Nat} {D : α → Prop} {act : α → Nat → α}
/-- a word moves nothing -/
def Fix (D : α → Prop) (act : α → Nat → α) (w : W) : Prop := ∀ p, D p → actW act p w = p
variable (h : Mdl n [] D act)
include h
theorem red_act {w : W} (hw : LOk n w) {p : α} (hp : D p) : actW act p (red w) = actW act p w := h.redW hp _ w rfl hw
theorem inv_act' {w : W} (hw : LOk n w) {p : α} (hp : D p) : actW act (actW act p (inv w)) w = p := by
  have := h.invW hw.inv hp
  rwa [Ct.inv_inv] at this
theorem fix_red {w : W} (hw : LOk n w) : Fix D act (red w) ↔ Fix D act w :=
  ⟨fun k p hp => by rw [← red_act h hw hp]; exact k p hp, fun k p hp => by rw [red_act h hw hp]; exact k p hp⟩
theorem fix_inv {w : W} (hw : LOk n w) (k : Fix D act w) : Fix D act (inv w) := fun p hp => by
  have h1 := h.clW hw.inv hp
  have h2 := k _ h1
  rw [inv_act' h hw hp] at h2
  exact h2.symm
theorem fix_rot {a b : W} (ha : LOk n a) (k : Fix D act (a ++ b)) : Fix D act (b ++ a) := fun p hp => by
  have h1 := h.clW ha.inv hp
  have h2 := k _ h1
  rw [actW_app, inv_act' h ha hp] at h2
  rw [actW_app, h2]
  exact inv_act' h ha hp
theorem act_pair {x : Int} (hx : -(n : Int) ≤ x ∧ x ≤ n ∧ x ≠ 0) {p : α} (hp : D p) : actW act p [x, -x] = p := h.back hp hx
theorem fix_rotW {w : W} (hw : LOk n w) (k : Nat) : Fix D act (rot w k) ↔ Fix D act w := by
  have e : w = w.take k ++ w.drop k := (List.take_append_drop k w).symm
  constructor
  · intro hf
    have := fix_rot h (a := w.drop k) (b := w.take k) (fun x hx => hw x (List.mem_of_mem_drop hx)) hf
    rwa [List.take_append_drop] at this
  · intro hf
    rw [e] at hf
    exact fix_rot h (fun x hx => hw x (List.mem_of_mem_take hx)) hf
theorem fix_mid {m : W} {x : Int} (hx : -(n : Int) ≤ x ∧ x ≤ n ∧ x ≠ 0) (hm : LOk n m) : Fix D act (x :: (m ++ [-x])) ↔ Fix D act m := by
  have hx1 : LOk n [x] := fun y hy => by rw [List.mem_singleton.1 hy]; exact hx
  have hm1 : LOk n (m ++ [-x]) := hm.app fun y hy => by rw [List.mem_singleton.1 hy]; omega
  have key : Fix D act ((m ++ [-x]) ++ [x]) ↔ Fix D act m := by
    have e : ∀ p, D p → actW act p ((m ++ [-x]) ++ [x]) = actW act p m := fun p hp => by
      rw [List.append_assoc, actW_app]
      have := act_pair h (x := -x) (by omega) (h.clW hm hp)
      rw [Int.neg_neg] at this
      exact this
    exact ⟨fun k p hp => by rw [← e p hp]; exact k p hp, fun k p hp => by rw [e p hp]; exact k p hp⟩
  rw [← key]
  exact ⟨fun k => fix_rot h (a := [x]) (b := m ++ [-x]) hx1 k, fun k => fix_rot h (a := m ++ [-x]) (b := [x]) hm1 k⟩
theorem fix_cycTo : ∀ (k : Nat) {w : W}, LOk n w → (Fix D act (cycTo k w) ↔ Fix D act w)
  | 0, _, _ => Iff.rfl
  | k + 1, w, hw => by
    unfold cycTo
    split
    · rename_i hc
      have hml : LOk n ((w.drop 1).take (w.length - 2)) := fun x hx => hw x (List.mem_of_mem_drop (List.mem_of_mem_take hx))
      rw [fix_cycTo k hml]
      obtain ⟨x, m, y, e⟩ : ∃ x m y, w = x :: (m ++ [y]) := by
        match w, hc.1 with
        | x :: v, hl =>
          rcases List.eq_nil_or_concat v with rfl | ⟨m, y, rfl⟩
          · simp at hl
          · exact ⟨x, m, y, by rw [List.concat_eq_append]⟩
      subst e
      have e2 : ((x :: (m ++ [y])).drop 1).take ((x :: (m ++ [y])).length - 2) = m := by simp
      rw [e2] at hml ⊢
      have e3 : (x :: (m ++ [y])).getD ((x :: (m ++ [y])).length - 1) 0 = y := by simp [List.getD_eq_getElem?_getD]
      have e4 : (x :: (m ++ [y])).getD 0 0 = x := rfl
      have e5 := (opp_iff'.1 (e3 ▸ e4 ▸ hc.2)).2
      rw [e5]
      exact (fix_mid h (hw x (List.mem_cons_self ..)) hml).symm
    · exact Iff.rfl
theorem fix_cyc {w : W} (hw : LOk n w) : Fix D act (cyc w) ↔ Fix D act w := by
  unfold cyc
  rw [fix_cycTo h _ (Ct.lok_redP hw)]
  exact fix_red h hw
theorem fix_least {w : W} (hw : LOk n w) : Fix D act (leastW w) ↔ Fix D act w := by
  have hc : LOk n (cyc w) := fun x hx => hw x ((cyc_sub w).1 x hx)
  rw [← fix_cyc h hw]
  unfold leastW
  rcases leastOf_is (cyc w) with e | ⟨j, h1, e⟩ | ⟨j, h1, e⟩ <;> rw [e]
  · exact fix_rotW h hc j
  · rw [(cyc_cy w).invW, fix_rotW h hc.inv j]
    refine ⟨fun k => ?_, fix_inv h hc⟩
    have := fix_inv h hc.inv k
    rwa [Ct.inv_inv] at this
/-- the clean relators hold just where the relators do -/
theorem fix_clean {rels : List W} (hr : ∀ w ∈ rels, LOk n w) : (∀ w ∈ cleanL rels, Fix D act w) ↔ ∀ w ∈ rels, Fix D act w := by
  have key : ∀ k, k ≤ rels.length → ((∀ w ∈ cleanTo rels k, Fix D act w) ↔ ∀ w ∈ rels.take k, Fix D act w) := by
    intro k
    induction k with
    | zero => intro _; simp [cleanTo, foldTo]
    | succ k ih =>
      intro hk
      have hm : rels.getD k [] ∈ rels := getD_mem' (by omega)
      have e : rels.take (k + 1) = rels.take k ++ [rels.getD k []] := by
        rw [List.take_add_one, List.getD_eq_getElem?_getD, List.getElem?_eq_getElem (show k < rels.length by omega)]; rfl
      have h1 : (∀ w ∈ rels.take (k + 1), Fix D act w) ↔ (∀ w ∈ rels.take k, Fix D act w) ∧ Fix D act (rels.getD k []) := by
        rw [e]
        exact ⟨fun q => ⟨fun w hw => q w (List.mem_append_left _ hw), q _ (List.mem_append_right _ (List.mem_singleton_self _))⟩, fun q w hw => (List.mem_append.1 hw).elim (q.1 w) fun hw => by rw [List.mem_singleton.1 hw]; exact q.2⟩
      have h2 := fix_least h (hr _ hm)
      rw [h1, ← ih (by omega), ← h2]
      show (∀ w ∈ (if leastW (rels.getD k []) = [] then cleanTo rels k else ins (leastW (rels.getD k [])) (cleanTo rels k)), Fix D act w) ↔ _
      split
      · rename_i e0
        rw [e0]
        exact ⟨fun q => ⟨q, fun _ _ => rfl⟩, fun q => q.1⟩
      · exact ⟨fun q => ⟨fun w hw => q w (mem_ins.2 (.inr hw)), q _ (mem_ins.2 (.inl rfl))⟩, fun q w hw => (mem_ins.1 hw).elim (fun e => by rw [e]; exact q.2) (q.1 w)⟩
  have := key rels.length (Nat.le_refl _)
  rwa [List.take_length] at this
/-- a relator is replaced by what it becomes -/
theorem fix_short {s w v : W} (hs : LOk n s) (hw : LOk n w) (hwn : w ≠ []) (hf : Fix D act w) (e : shortW s w = some v) : Fix D act v ↔ Fix D act s := by
  unfold shortW at e
  simp only at e
  split at e
  · rename_i hl
    split at e
    · rename_i k hk
      have hks : k < s.length := List.mem_range.1 (List.mem_of_find?_eq_some hk)
      have hhd := List.find?_some hk
      injection e with e
      subst e
      have hH : w.length / 2 + 1 ≤ w.length := by have := List.length_pos_iff.2 hwn; omega
      generalize w.length / 2 + 1 = H at *
      have hrl : LOk n (rot s k) := fun x hx => hs x (mem_rot hx)
      rw [← fix_rotW h hs k]
      -- the head
      have hh : (rot s k).take H = w.take H := by
        unfold headsB at hhd
        rw [List.all_eq_true] at hhd
        refine List.ext_getElem (by
          rw [List.length_take, List.length_take, length_rot s (by omega)]
          omega) ?_
        intro i h1 h2
        rw [List.length_take] at h2
        rw [List.length_take, length_rot s (by omega)] at h1
        have := hhd i (List.mem_range.2 (by rw [List.length_take]; omega))
        simp only [decide_eq_true_eq] at this
        rw [getD_take0 (by omega)] at this
        have e1 := getD_rot (w := s) (k := k) (i := i) (by omega) (by omega)
        rw [show i + k = k + i by omega, this] at e1
        rw [List.getElem_take, List.getElem_take]
        rw [List.getD_eq_getElem?_getD, List.getD_eq_getElem?_getD, List.getElem?_eq_getElem (by rw [length_rot s (by omega)]; omega), List.getElem?_eq_getElem (by omega)] at e1
        exact e1
      have hwd : LOk n (w.drop H) := fun y hy => hw y (List.mem_of_mem_drop hy)
      have hwt : LOk n (w.take H) := fun y hy => hw y (List.mem_of_mem_take hy)
      have hxd : LOk n ((rot s k).drop H) := fun y hy => hrl y (List.mem_of_mem_drop hy)
      have e2 : ∀ p, D p → actW act p (mulW (invW (w.drop H)) ((rot s k).drop H)) = actW act p (rot s k) := fun p hp => by
        have h1 : actW act p (inv (w.drop H)) = actW act p (w.take H) := by
          have h3 := hf p hp
          rw [← List.take_append_drop H w, actW_app] at h3
          have h4 := h.invW hwd (h.clW hwt hp)
          rw [h3] at h4
          exact h4
        unfold Ct.mulW Ct.invW
        rw [red_act h ((Ct.lok_redP hwd.inv).app hxd) hp, actW_app, red_act h hwd.inv hp, h1, ← hh, ← actW_app, List.take_append_drop]
      exact ⟨fun k p hp => by rw [← e2 p hp]; exact k p hp, fun k p hp => by rw [e2 p hp]; exact k p hp⟩
    · cases e
  · cases e
theorem fix_turn {r t : W} (hr : LOk n r) (hf : Fix D act r) (ht : t ∈ turnsW r) : LOk n t ∧ Fix D act t := by
  rcases List.mem_append.1 ht with q | q
  · obtain ⟨k, -, rfl⟩ := List.mem_map.1 q
    exact ⟨fun x hx => hr x (mem_rot hx), (fix_rotW h hr k).2 hf⟩
  · obtain ⟨k, -, rfl⟩ := List.mem_map.1 q
    have h1 : LOk n (invW r) := Ct.lok_redP hr.inv
    refine ⟨fun x hx => h1 x (mem_rot hx), (fix_rotW h h1 k).2 ?_⟩
    exact (fix_red h hr.inv).2 (fix_inv h hr hf)
/-- a shortening step: the relators hold just where they held -/
theorem fix_shortF {rels l : List W} (hC : Cln n rels) (e : shortF rels = some l) : (∀ w ∈ l, Fix D act w) ↔ ∀ w ∈ rels, Fix D act w := by
  have hr := hC.ok
  unfold shortF at e
  obtain ⟨⟨i, k⟩, h1, h2⟩ := List.exists_of_findSome?_eq_some e
  obtain ⟨hi, hk, hik⟩ := pairs_mem h1
  obtain ⟨t, h3, h4⟩ := List.exists_of_findSome?_eq_some h2
  simp only [Option.map_eq_some_iff] at h4
  obtain ⟨v, h5, rfl⟩ := h4
  have hi' := hr _ (getD_mem' hi)
  have hk' := hr _ (getD_mem' hk)
  obtain ⟨t1, -, t3⟩ := turns_mem (hC.cy _ (getD_mem' hi)) h3
  have htl : LOk n t := t3 n hi'
  have tne : t ≠ [] := fun e => hC.ne _ (getD_mem' hi) (List.eq_nil_of_length_eq_zero (by rw [← t1, e]; rfl))
  have hvl : LOk n v := (shortW_some tne h5).2 n hk' htl
  have hset : ∀ w ∈ rels.set k v, LOk n w := fun w hw => (List.mem_or_eq_of_mem_set hw).elim (hr w) fun e => by rw [e]; exact hvl
  rw [fix_clean h hset]
  have hki : (rels.set k v).getD i [] = rels.getD i [] := by
    simp [List.getD_eq_getElem?_getD, List.getElem?_set_ne (Ne.symm hik)]
  have him : rels.getD i [] ∈ rels.set k v := by rw [← hki]; exact getD_mem' (by rw [List.length_set]; exact hi)
  have hvm : v ∈ rels.set k v := by
    have e1 : (rels.set k v).getD k [] = v := by simp [List.getD_eq_getElem?_getD, hk]
    have e2 := getD_mem' (l := rels.set k v) (j := k) (by rw [List.length_set]; exact hk)
    rwa [e1] at e2
  constructor
  · intro q w hw
    have hf := fix_turn h hi' (q _ him) h3
    obtain ⟨j, hj, ew⟩ := List.mem_iff_getElem.1 hw
    by_cases hjk : j = k
    · subst hjk
      have : rels.getD j [] = w := by rw [List.getD_eq_getElem?_getD, List.getElem?_eq_getElem hj]; exact ew
      rw [← this]
      exact (fix_short h hk' hf.1 tne hf.2 h5).1 (q v hvm)
    · refine q w ?_
      have : (rels.set k v).getD j [] = w := by rw [List.getD_eq_getElem?_getD, List.getElem?_set_ne (Ne.symm hjk), List.getElem?_eq_getElem hj]; exact ew
      rw [← this]; exact getD_mem' (by rw [List.length_set]; exact hj)
  · intro q w hw
    rcases List.mem_or_eq_of_mem_set hw with e | e
    · exact q w e
    · rw [e]
      have hf := fix_turn h hi' (q _ (getD_mem' hi)) h3
      exact (fix_short h hk' hf.1 tne hf.2 h5).2 (q _ (getD_mem' hk))
end
end Go.Proofs.Tz
namespace Go.Proofs.Tz
open Go.Proofs.Ct (W red inv mulW invW opp foldTo push redTo LOk Mdl actW actW_app col flp)
section
variable {α : Type} {n : Nat} {D : α → Prop} {act : α → Nat → α}
theorem col_pos {x : Int} (hx : 0 < x) : col x = 2 * (x - 1).toNat := by unfold Ct.col; rw [if_pos hx]; omega
theorem col_neg {x : Int} (hx : x < 0) : col x = 2 * (-x - 1).toNat + 1 := by unfold Ct.col; rw [if_neg (by omega)]; omega
theorem flp_even (k : Nat) : flp (2 * k) = 2 * k + 1 := by unfold Ct.flp; rw [if_pos (by omega)]
theorem flp_odd (k : Nat) : flp (2 * k + 1) = 2 * k := by unfold Ct.flp; rw [if_neg (by omega)]; omega
theorem cut_at {r : W} {a : Nat} (h : a < r.length) : r = r.take a ++ ([r.getD a 0] ++ r.drop (a + 1)) := by
  have e : r.getD a 0 = r[a] := by rw [List.getD_eq_getElem?_getD, List.getElem?_eq_getElem h]; rfl
  rw [e]
  show r = r.take a ++ r[a] :: r.drop (a + 1)
  rw [List.getElem_cons_drop, List.take_append_drop]
/-- a relator in which a generator stands once says what the generator is -/
theorem img_rel (h : Mdl n [] D act) {r : W} {gen a : Nat} (hg : 1 ≤ gen ∧ gen ≤ n) (hr : LOk n r) (ho : onceW r gen = some a) : Fix D act r ↔ ∀ p, D p → act p (2 * (gen - 1)) = actW act p (imgW r a) := by
  obtain ⟨ha, hx, -, -⟩ := onceW_spec ho
  have hx' := isG_iff.1 hx
  have e := cut_at ha
  have hu : LOk n (r.take a) := fun y hy => hr y (List.mem_of_mem_take hy)
  have hv : LOk n (r.drop (a + 1)) := fun y hy => hr y (List.mem_of_mem_drop hy)
  have hi : imgW r a = if r.getD a 0 < 0 then invW (mulW (invW (r.take a)) (invW (r.drop (a + 1)))) else mulW (invW (r.take a)) (invW (r.drop (a + 1))) := rfl
  rw [hi]
  generalize r.getD a 0 = x at *
  generalize r.take a = u at *
  generalize r.drop (a + 1) = v at *
  subst e
  have hxo : -(n : Int) ≤ x ∧ x ≤ n ∧ x ≠ 0 := by omega
  have hc := Ct.col_ltL hxo
  have hJ : LOk n (mulW (invW u) (invW v)) := Ct.lok_redP ((Ct.lok_redP hu.inv).app (Ct.lok_redP hv.inv))
  have hJa : ∀ p, D p → actW act p (mulW (invW u) (invW v)) = actW act (actW act p (inv u)) (inv v) := fun p hp => by
    unfold Ct.mulW Ct.invW
    rw [red_act h ((Ct.lok_redP hu.inv).app (Ct.lok_redP hv.inv)) hp, actW_app, red_act h hu.inv hp, red_act h hv.inv (h.clW hu.inv hp)]
  have key : Fix D act (u ++ ([x] ++ v)) ↔ ∀ q, D q → act q (col x) = actW act q (mulW (invW u) (invW v)) := by
    constructor
    · intro k q hq
      have h1 := h.clW hu.inv hq
      have h2 := k _ h1
      rw [actW_app, inv_act' h hu hq, actW_app] at h2
      have h3 : actW act (act q (col x)) v = actW act q (inv u) := h2
      rw [hJa q hq, ← h3]
      exact (h.invW hv (h.cl _ _ hq hc)).symm
    · intro k p hp
      have h1 := h.clW hu hp
      have h2 := k _ h1
      rw [hJa _ h1, h.invW hu hp] at h2
      rw [actW_app, actW_app]
      show actW act (act (actW act p u) (col x)) v = p
      rw [h2]
      exact inv_act' h hv hp
  rw [key]
  generalize mulW (invW u) (invW v) = J at *
  rcases hx' with rfl | rfl
  · rw [if_neg (by omega)]
    have : col (gen : Int) = 2 * (gen - 1) := by rw [col_pos (by omega)]; omega
    rw [this]
  · rw [if_pos (by omega)]
    have e1 : col (-(gen : Int)) = 2 * (gen - 1) + 1 := by rw [col_neg (by omega)]; omega
    have hI : ∀ p, D p → actW act p (invW J) = actW act p (inv J) := fun p hp => red_act h hJ.inv hp
    rw [e1]
    constructor
    · intro k p hp
      have h1 := h.cl p (2 * (gen - 1)) hp (by omega)
      have h2 := k _ h1
      have h3 := h.inv p (2 * (gen - 1)) hp (by omega)
      rw [flp_even] at h3
      rw [h3] at h2
      rw [hI p hp]
      have h4 := h.invW hJ h1
      rw [← h2] at h4
      exact h4.symm
    · intro k q hq
      have h1 := h.cl q (2 * (gen - 1) + 1) hq (by omega)
      have h2 := k _ h1
      have h3 := h.inv q (2 * (gen - 1) + 1) hq (by omega)
      rw [flp_odd] at h3
      rw [h3, hI _ h1] at h2
      have h4 := inv_act' h hJ h1
      rw [← h2] at h4
      exact h4.symm
/-- the generators that are left when one is struck out -/
def upC (gen c : Nat) : Nat := if c / 2 + 1 < gen then c else c + 2
theorem up_lt {gen c : Nat} (hg : 1 ≤ gen ∧ gen ≤ n) (hc : c < 2 * (n - 1)) : upC gen c < 2 * n := by unfold upC; split <;> omega
theorem up_flp (gen c : Nat) : upC gen (flp c) = flp (upC gen c) := by
  unfold upC Ct.flp
  by_cases h1 : c % 2 = 0
  · rw [if_pos h1]
    by_cases h2 : c / 2 + 1 < gen
    · rw [if_pos (by omega), if_pos h2, if_pos h1]
    · rw [if_neg (by omega), if_neg h2, if_pos (by omega)]
  · rw [if_neg h1]
    by_cases h2 : c / 2 + 1 < gen
    · rw [if_pos (by omega), if_pos h2, if_neg h1]
    · rw [if_neg (by omega), if_neg h2, if_neg (by omega)]; omega
theorem up_col {gen : Nat} {x : Int} (hg : 1 ≤ gen) (hx : x ≠ 0) (hn : isG gen x = false) : upC gen (col (lowI gen x)) = col x := by
  have h2 : ¬ (x = (gen : Int) ∨ x = -(gen : Int)) := fun e => by rw [isG_iff.2 e] at hn; cases hn
  unfold lowI
  by_cases h3 : x > (gen : Int)
  · rw [if_pos h3, col_pos (by omega), col_pos (by omega)]
    unfold upC
    rw [if_neg (by omega)]; omega
  · rw [if_neg h3]
    by_cases h4 : x < -(gen : Int)
    · rw [if_pos h4, col_neg (by omega), col_neg (by omega)]
      unfold upC
      rw [if_neg (by omega)]; omega
    · rw [if_neg h4]
      unfold upC
      rw [if_pos]
      by_cases h5 : 0 < x
      · rw [col_pos h5]; omega
      · rw [col_neg (by omega)]; omega
theorem mdl_up (h : Mdl n [] D act) {gen : Nat} (hg : 1 ≤ gen ∧ gen ≤ n) : Mdl (n - 1) [] D (fun p c => act p (upC gen c)) :=
  ⟨fun p c hp hc => h.cl p _ hp (up_lt hg hc), fun p c hp hc => by
    show act (act p (upC gen c)) (upC gen (flp c)) = p
    rw [up_flp]
    exact h.inv p _ hp (up_lt hg hc), fun p i _ hi => absurd hi (Nat.not_lt_zero _)⟩
/-- a word without the generator acts as it did, by whatever acts as the generators that are left did -/
theorem low_act {act' : α → Nat → α} {gen : Nat} (hg : 1 ≤ gen ∧ gen ≤ n) (he : ∀ p c, D p → c < 2 * (n - 1) → act' p c = act p (upC gen c)) (hD : ∀ p c, D p → c < 2 * n → D (act p c)) : ∀ {w : W} {p : α}, LOk n w → (∀ x ∈ w, isG gen x = false) → D p → actW act' p (lowW gen w) = actW act p w
  | [], _, _, _, _ => rfl
  | x :: w, p, hw, hn, hp => by
    have hx := hw x (List.mem_cons_self ..)
    have hl := low_ok (w := [x]) hg (fun y hy => by rw [List.mem_singleton.1 hy]; exact hx) (fun y hy => by rw [List.mem_singleton.1 hy]; exact hn x (List.mem_cons_self ..)) (lowI gen x) (List.mem_singleton_self _)
    show actW act' (act' p (col (lowI gen x))) (lowW gen w) = actW act (act p (col x)) w
    rw [he p _ hp (Ct.col_ltL hl), up_col hg.1 hx.2.2 (hn x (List.mem_cons_self ..))]
    exact low_act hg he hD (fun y hy => hw y (List.mem_cons_of_mem _ hy)) (fun y hy => hn y (List.mem_cons_of_mem _ hy)) (hD p _ hp (Ct.col_ltL hx))
/-- words for letters: they act as the letters do -/
theorem sb_act {m : Nat} {act' : α → Nat → α} {G : List W} (h : Mdl n [] D act) (h' : Mdl m [] D act') (hl : G.length = n) (hG : ∀ w ∈ G, LOk m w) (he : ∀ i, i < n → ∀ p, D p → actW act' p (G.getD i []) = act p (2 * i)) {z : W} (hz : LOk n z) {p : α} (hp : D p) : actW act' p (sbW G z) = actW act p z := by
  have hGi : ∀ i, i < n → LOk m (G.getD i []) := fun i hi => hG _ (getD_mem' (by omega))
  have key : ∀ k, k ≤ z.length → actW act' p (sbTo G z k) = actW act p (z.take k) := by
    intro k
    induction k with
    | zero => intro _; rfl
    | succ k ih =>
      intro hk
      have hx := hz.getD (show k < z.length by omega)
      have ih' := ih (by omega)
      rw [Ct.take_snoc0 (by omega), actW_app]
      have hs := sbTo_ok hG z k
      have hDp := h.clW (fun y hy => hz y (List.mem_of_mem_take hy)) hp (w := z.take k)
      show actW act' p (mulW (sbTo G z k) (if 0 < z.getD k 0 then G.getD (z.getD k 0 - 1).toNat [] else inv (G.getD (-(z.getD k 0) - 1).toNat []))) = act (actW act p (z.take k)) (col (z.getD k 0))
      unfold Ct.mulW
      generalize z.getD k 0 = x at *
      by_cases h0 : 0 < x
      · rw [if_pos h0, red_act h' (hs.app (hGi _ (by omega))) hp, actW_app, ih', he _ (by omega) _ hDp, col_pos h0]
      · have hi : (-x - 1).toNat < n := by omega
        rw [if_neg h0, red_act h' (hs.app (hGi _ hi).inv) hp, actW_app, ih', col_neg (by omega)]
        have h1 := h.cl _ (2 * (-x - 1).toNat + 1) hDp (by omega)
        have h2 := he _ hi _ h1
        have h3 := h.inv _ (2 * (-x - 1).toNat + 1) hDp (by omega)
        rw [flp_odd] at h3
        rw [h3] at h2
        have h4 := h'.invW (hGi _ hi) h1
        rw [h2] at h4
        exact h4
  have := key z.length (Nat.le_refl _)
  rwa [List.take_length] at this
/-- what an elimination is -/
theorem elim_parts {rels : List W} {rel gen : Nat} {l im : List W} (e : elimE n rels rel gen = .inl (l, im)) : ∃ a, onceW (rels.getD rel []) gen = some a ∧ n ≠ 1 ∧ im = imgsW n gen (imgW (rels.getD rel []) a) ∧ l = cleanL ((rels.eraseIdx rel).map (sbW im)) := by
  unfold elimE at e
  split at e
  · cases e
  · rename_i a ha
    split at e
    · cases e
    · rename_i hn
      simp only at e
      split at e
      · cases e
      · split at e
        · cases e
        · rename_i m hm
          split at e
          · cases e
          · injection e with e
            injection e with e1 e2
            obtain ⟨h1, -⟩ := sbL_some hm
            subst e1 e2 h1
            exact ⟨a, ha, hn, rfl, rfl⟩
/-- from the old generators to those that are left -/
theorem elim_fwd (h : Mdl n [] D act) {rels : List W} (hV : Vld n rels) {rel gen : Nat} (hrl : rel < rels.length) (hg : 1 ≤ gen ∧ gen ≤ n) {l im : List W} (e : elimE n rels rel gen = .inl (l, im)) (hf : ∀ w ∈ rels, Fix D act w) :
    Mdl (n - 1) [] D (fun p c => act p (upC gen c)) ∧ (∀ w ∈ l, Fix D (fun p c => act p (upC gen c)) w) ∧ ∀ i, i < n → ∀ p, D p → actW (fun p c => act p (upC gen c)) p (im.getD i []) = act p (2 * i) := by
  obtain ⟨a, ho, hn, rfl, rfl⟩ := elim_parts e
  obtain ⟨-, hC, hil, hio, -⟩ := elim_cln hV hrl hg e
  have hm := getD_mem' hrl
  have hrok := hV.ok _ hm
  have h' := mdl_up h hg
  obtain ⟨ha, -, ht, hd⟩ := onceW_spec ho
  have hI : ∀ i, i < n → ∀ p, D p → actW (fun p c => act p (upC gen c)) p ((imgsW n gen (imgW (rels.getD rel []) a)).getD i []) = act p (2 * i) := fun i hi p hp => by
    rw [imgs_get hi]
    split
    · rename_i eg
      have hio' : LOk n (imgW (rels.getD rel []) a) ∧ ∀ x ∈ imgW (rels.getD rel []) a, isG gen x = false := by
        have hx : ∀ x ∈ imgW (rels.getD rel []) a, (-(n : Int) ≤ x ∧ x ≤ n ∧ x ≠ 0) ∧ isG gen x = false := fun x hx => by
          have hh : ∀ y, (y ∈ (rels.getD rel []).take a ∨ y ∈ (rels.getD rel []).drop (a + 1)) → (-(n : Int) ≤ y ∧ y ≤ n ∧ y ≠ 0) ∧ isG gen y = false := fun y hy => by
            rcases hy with hy | hy
            · exact ⟨hrok y (List.mem_of_mem_take hy), ht y hy⟩
            · exact ⟨hrok y (List.mem_of_mem_drop hy), hd y hy⟩
          rcases img_mem hx with q | q
          · exact hh x q
          · have := hh _ q
            refine ⟨by omega, ?_⟩
            cases e : isG gen x with
            | false => rfl
            | true => rw [isG_iff] at e; rw [isG_iff.2 (by omega)] at this; exact absurd this.2 (by simp)
        exact ⟨fun x q => (hx x q).1, fun x q => (hx x q).2⟩
      rw [low_act hg (fun _ _ _ _ => rfl) h.cl hio'.1 hio'.2 hp, ← (img_rel h hg hrok ho).1 (hf _ hm) p hp]
      congr 1
      omega
    · rename_i hne
      have hx1 : isG gen ((i : Int) + 1) = false := by
        cases e : isG gen ((i : Int) + 1) with
        | false => rfl
        | true => rw [isG_iff] at e; omega
      rw [low_act hg (fun _ _ _ _ => rfl) h.cl (fun y hy => by rw [List.mem_singleton.1 hy]; omega) (fun y hy => by rw [List.mem_singleton.1 hy]; exact hx1) hp]
      show act p (col ((i : Int) + 1)) = _
      rw [col_pos (by omega)]
      congr 1
      omega
  refine ⟨h', ?_, hI⟩
  refine (fix_clean h' fun w hw => ?_).2 fun w hw => ?_
  · obtain ⟨z, -, rfl⟩ := List.mem_map.1 hw
    exact sbTo_ok hio z _
  · obtain ⟨z, hz, rfl⟩ := List.mem_map.1 hw
    have hzr := List.mem_of_mem_eraseIdx hz
    exact fun p hp => (sb_act h h' hil hio hI (hV.ok z hzr) hp).trans (hf z hzr p hp)
end
end Go.Proofs.Tz
namespace Go.Proofs.Tz
open Go.Proofs.Ct (W red inv mulW invW opp foldTo push redTo LOk Mdl actW actW_app col flp)
section
variable {α : Type} {D : α → Prop}
theorem firstE_parts {n : Nat} {rels : List W} {q : List W × List W} {gen : Nat} (h : firstE n rels = some (q, gen)) : ∃ i, i < rels.length ∧ 1 ≤ gen ∧ gen ≤ n ∧ elimE n rels i gen = .inl q := by
  unfold firstE at h
  obtain ⟨i, h1, h2⟩ := List.exists_of_findSome?_eq_some h
  obtain ⟨g, h3, h4⟩ := List.exists_of_findSome?_eq_some h2
  obtain ⟨j, h5, rfl⟩ := List.mem_map.1 h3
  rw [List.mem_range] at h1 h5
  split at h4
  · rename_i q' hq
    injection h4 with h4
    injection h4 with e1 e2
    subst e1 e2
    exact ⟨i, h1, by omega, by omega, hq⟩
  · cases h4
/-- the steps: an elimination or a shortening -/
inductive Step : Sp → Sp → Prop where
  | elim {s : Sp} {q : List W × List W} {i gen : Nat} {l : List W} (hi : i < s.rels.length) (h1 : 1 ≤ gen) (h2 : gen ≤ s.n) (e : elimE s.n s.rels i gen = .inl q) (hl : sbL q.2 s.into = some l) : Step s ⟨s.n - 1, q.1, l, s.back.eraseIdx (gen - 1)⟩
  | short {s : Sp} {l : List W} (e : shortF s.rels = some l) : Step s { s with rels := l }
/-- a state in order -/
structure Okay (n0 : Nat) (s : Sp) : Prop where
  cln : Cln s.n s.rels
  il : s.into.length = n0
  io : ∀ w ∈ s.into, LOk s.n w
  bl : s.back.length = s.n
  bb : ∀ j, j < s.n → ∃ i, i < n0 ∧ s.back.getD j 0 = (i : Int) + 1
theorem getD_eraseI (l : List Int) (k j : Nat) : (l.eraseIdx k).getD j 0 = if j < k then l.getD j 0 else l.getD (j + 1) 0 := by
  simp only [List.getD_eq_getElem?_getD, List.getElem?_eraseIdx]
  split <;> rfl
theorem Okay.step {n0 : Nat} {s s' : Sp} (h : Okay n0 s) (k : Step s s') : Okay n0 s' := by
  cases k with
  | @elim q i gen l hi h1 h2 e hl =>
    obtain ⟨a, hC, b, hio, c⟩ := elim_cln h.cln.vld hi ⟨h1, h2⟩ (l := q.1) (im := q.2) e
    obtain ⟨rfl, -⟩ := sbL_some hl
    refine ⟨hC, by rw [List.length_map]; exact h.il, fun w hw => ?_, ?_, fun j hj => ?_⟩
    · obtain ⟨z, -, rfl⟩ := List.mem_map.1 hw
      exact sbTo_ok hio z _
    · show (s.back.eraseIdx (gen - 1)).length = s.n - 1
      rw [List.length_eraseIdx, h.bl, if_pos (by omega)]
    · show ∃ i, i < n0 ∧ (s.back.eraseIdx (gen - 1)).getD j 0 = _
      rw [getD_eraseI]
      have hj' : j < s.n - 1 := hj
      split
      · exact h.bb j (by omega)
      · exact h.bb (j + 1) (by omega)
  | short e => exact ⟨short_cln h.cln e, h.il, h.io, h.bl, h.bb⟩
/-- how a state's generators act, against the first ones -/
structure Fit (act0 : α → Nat → α) (D : α → Prop) (n0 : Nat) (s : Sp) (act : α → Nat → α) : Prop where
  m : Mdl s.n [] D act
  fx : ∀ w ∈ s.rels, Fix D act w
  ie : ∀ i, i < n0 → ∀ p, D p → actW act p (s.into.getD i []) = act0 p (2 * i)
  be : ∀ j, j < s.n → ∃ i, i < n0 ∧ s.back.getD j 0 = (i : Int) + 1 ∧ ∀ p, D p → act p (2 * j) = act0 p (2 * i)
theorem getD_mapW (f : W → W) {l : List W} {i : Nat} (hi : i < l.length) : (l.map f).getD i [] = f (l.getD i []) := by
  simp [List.getD_eq_getElem?_getD, hi]
theorem Fit.step {act0 act : α → Nat → α} {n0 : Nat} {s s' : Sp} (hO : Okay n0 s) (h : Fit act0 D n0 s act) (k : Step s s') : ∃ act', Fit act0 D n0 s' act' := by
  cases k with
  | @elim q i gen l hi h1 h2 e hl =>
    obtain ⟨f1, f2, f3⟩ := elim_fwd h.m hO.cln.vld hi ⟨h1, h2⟩ (l := q.1) (im := q.2) e h.fx
    obtain ⟨a, hC, hil, hio, c⟩ := elim_cln hO.cln.vld hi ⟨h1, h2⟩ (l := q.1) (im := q.2) e
    obtain ⟨rfl, -⟩ := sbL_some hl
    refine ⟨fun p c => act p (upC gen c), f1, f2, fun i hi p hp => ?_, fun j hj => ?_⟩
    · show actW _ p ((s.into.map (sbW q.2)).getD i []) = _
      have hi' : i < s.into.length := by rw [hO.il]; exact hi
      rw [getD_mapW _ hi', sb_act h.m f1 hil hio f3 (hO.io _ (getD_mem' hi')) hp]
      exact h.ie i hi p hp
    · have hj' : j < s.n - 1 := hj
      show ∃ i, i < n0 ∧ (s.back.eraseIdx (gen - 1)).getD j 0 = _ ∧ ∀ p, D p → act p (upC gen (2 * j)) = _
      rw [getD_eraseI]
      by_cases hq : j < gen - 1
      · rw [if_pos hq]
        have : upC gen (2 * j) = 2 * j := by unfold upC; rw [if_pos (by omega)]
        rw [this]
        exact h.be j (by omega)
      · rw [if_neg hq]
        have : upC gen (2 * j) = 2 * (j + 1) := by unfold upC; rw [if_neg (by omega)]; omega
        rw [this]
        exact h.be (j + 1) (by omega)
  | short e => exact ⟨act, h.m, (fix_shortF h.m hO.cln e).2 h.fx, h.ie, h.be⟩
theorem elim_step {s s' : Sp} (e : s.elim = some (.inl s')) : Step s s' := by
  unfold Sp.elim at e
  split at e
  · cases e
  · rename_i q gen hq
    injection e with e
    split at e
    · cases e
    · rename_i l hl
      injection e with e
      subst e
      obtain ⟨i, h1, h2, h3, h4⟩ := firstE_parts hq
      exact .elim h1 h2 h3 h4 hl
/-- chains of steps -/
inductive Steps : Sp → Sp → Prop where
  | refl (s : Sp) : Steps s s
  | step {s t u : Sp} (h : Step s t) (k : Steps t u) : Steps s u
theorem Okay.steps {n0 : Nat} {s s' : Sp} (h : Okay n0 s) (k : Steps s s') : Okay n0 s' := by
  induction k with
  | refl => exact h
  | step h1 _ ih => exact ih (h.step h1)
theorem Fit.steps {act0 : α → Nat → α} {n0 : Nat} {s s' : Sp} (k : Steps s s') : ∀ {act : α → Nat → α}, Okay n0 s → Fit act0 D n0 s act → ∃ act', Fit act0 D n0 s' act' := by
  induction k with
  | refl => intro act _ h; exact ⟨act, h⟩
  | step h1 _ ih =>
    intro act hO h
    obtain ⟨act', h'⟩ := h.step hO h1
    exact ih (hO.step h1) h'
theorem okay0 {n : Nat} {rels : List W} (h : Cln n rels) : Okay n (sp0 n rels) := by
  refine ⟨h, by simp [sp0], fun w hw => ?_, by simp [sp0], fun j hj => ?_⟩
  · obtain ⟨i, hi, rfl⟩ := List.mem_map.1 hw
    rw [List.mem_range] at hi
    intro x hx
    rw [List.mem_singleton.1 hx]
    have : (sp0 n rels).n = n := rfl
    omega
  · have hj' : j < n := hj
    exact ⟨j, hj', by simp [sp0, List.getD_eq_getElem?_getD, hj']⟩
end
end Go.Proofs.Tz
namespace Go.Proofs
open Go.RowKit Go.Shelf Go.Lib Go.Sort Go.Proofs.Ct Go.Proofs.Tz Go.Maps
theorem elimE_inr {n : Nat} {rels : List (List Int)} {i g : Nat} {x : Int} (h : elimE n rels i g = .inr x) : x = 13 ∨ x = 4 := by
  unfold elimE at h
  split at h
  · injection h with h; exact .inl h.symm
  · split at h
    · injection h with h; exact .inl h.symm
    · simp only at h
      split at h
      · injection h with h; exact .inr h.symm
      · split at h
        · injection h with h; exact .inr h.symm
        · split at h
          · injection h with h; exact .inr h.symm
          · cases h
theorem getD_range {n j : Nat} (h : j < n) : (List.range n).getD j 0 = j := by simp [List.getD_eq_getElem?_getD, h]
theorem getD_down {n j : Nat} (h : j < n) : ((List.range n).map fun j => n - j).getD j 0 = n - j := by simp [List.getD_eq_getElem?_getD, h]
theorem firstE_none {n : Nat} {rels : List (List Int)} (h : ∀ a, a < rels.length → ∀ g, 1 ≤ g → g ≤ n → ∃ x, elimE n rels a g = .inr x) : firstE n rels = none := by
  refine findSome_none (d := 0) fun a ha => ?_
  rw [List.length_range] at ha
  rw [getD_range ha]
  refine findSome_none (d := 0) fun j hj => ?_
  rw [List.length_map, List.length_range] at hj
  rw [getD_down hj]
  obtain ⟨x, hx⟩ := h a ha (n - j) (by omega) (by omega)
  rw [hx]
theorem firstE_at {n : Nat} {rels : List (List Int)} {i g : Nat} {q : List (List Int) × List (List Int)} (h : ∀ a, a < i → ∀ g, 1 ≤ g → g ≤ n → ∃ x, elimE n rels a g = .inr x) (h2 : ∀ g', g < g' → g' ≤ n → ∃ x, elimE n rels i g' = .inr x) (hi : i < rels.length) (hg : 1 ≤ g ∧ g ≤ n) (hq : elimE n rels i g = .inl q) : firstE n rels = some (q, g) := by
  refine findSome_at (d := 0) (m := i) (fun a ha => ?_) (by rw [List.length_range]; exact hi) ?_
  · rw [getD_range (by omega)]
    refine findSome_none (d := 0) fun j hj => ?_
    rw [List.length_map, List.length_range] at hj
    rw [getD_down hj]
    obtain ⟨x, hx⟩ := h a ha (n - j) (by omega) (by omega)
    rw [hx]
  · rw [getD_range hi]
    refine findSome_at (d := 0) (m := n - g) (fun j hj => ?_) (by rw [List.length_map, List.length_range]; omega) ?_
    · rw [getD_down (by omega)]
      obtain ⟨x, hx⟩ := h2 (n - j) (by omega) (by omega)
      rw [hx]
    · rw [getD_down (by omega), show n - (n - g) = g by omega, hq]
section
variable {o : Oper} {a : Act} {w w' : World} {v : Value}
theorem r_callv {f : FuncId} (t x : Operand) (u : Value) (lb : Array Value) (T : Array TypeId) (ho : o.op = .call { callee := .value t, args := #[x], argTypes := T }) (ht : a.eval t = .func (.func f) #[] lb) (hx : a.eval x = u)
    (he : ∀ args w, (callFunc f args).run Tryz.prog w = .ok (.enter f args) w) : (execOp a.eval o).run Tryz.prog w = .ok (.enter f (#[u] ++ lb)) w := by
  unfold execOp
  simp only [ho, resolve, List.map_toArray, List.map_cons, List.map_nil, ht, hx]
  simp [go_sem, he]
theorem r_sub1 (x : Operand) (k : Nat) (ho : o.op = .binOp .sub 3 x (.const (.int .i64 1)) 3) (hx : a.eval x = .int .i64 ((k + 1 : Nat) : Int)) (hk : k ≤ 1000000) : (execOp a.eval o).run Tryz.prog w = .ok (.value (.int .i64 (k : Int))) w := by
  have hw : IntKind.i64.wrap (((k + 1 : Nat) : Int) - 1) = (k : Int) := by simp [IntKind.wrap, IntKind.bits, IntKind.signed]; omega
  have hw2 : IntKind.i64.wrap (k : Int) = (k : Int) := by simp [IntKind.wrap, IntKind.bits, IntKind.signed]; omega
  have hc : a.eval (.const (.int .i64 1)) = .int .i64 1 := rfl
  unfold execOp
  simp only [ho, hx, hc]
  simp [go_sem, hw2]
end
theorem call51 (args : Array Value) (w : World) : (callFunc 84 args).run Tryz.prog w = .ok (.enter 84 args) w := enters_of Tryz.func84 (by kernel_rfl) rfl args w
theorem call52 (args : Array Value) (w : World) : (callFunc 85 args).run Tryz.prog w = .ok (.enter 85 args) w := enters_of Tryz.func85 (by kernel_rfl) rfl args w
/-- what eliminate answers -/
def El29 (base xb : Nat) (s : Sp) (C : Option Addr) (c : Nat) (w : World) (e : Ending) (w' : World) : Prop :=
  match s.elim with
  | none => e = .returned (.bool false) ∧ Below w.heap.size w w'
  | some (.inl s') => e = .returned (.bool true) ∧ (∃ A a B b c', c' = c ∧ StX base xb s' 0 w' A a B b C c') ∧ BelX (XB xb (.slice C s.back.length c)) w w'
  | some (.inr _) => e = .returned (.bool true) ∧ w'.cell? ⟨xb, 4, none⟩ = some (.int .i64 4) ∧ BelX (XB xb (.slice C s.back.length c)) w w'
theorem load27m {w : World} {xb : Nat} {v0 v1 v2 v3 v4 : Value} {t : TypeId} (hc : w.heap[xb]? = some (.cells #[v0, v1, v2, v3, v4] t (0, 0))) : (Instr.loadAt 24 (.pointer (some ⟨xb, 0, none⟩))).run Tryz.prog w = .ok (.agg #[v0, v1]) w := by
  have hr : w.rangeAt xb 0 [v0, v1] := fun j v hj => by
    have hj2 : j < 2 := by have := (List.getElem?_eq_some_iff.1 hj).1; simpa using this
    have : j = 0 ∨ j = 1 := by omega
    rcases this with rfl | rfl
    · obtain rfl := Option.some.inj hj
      rw [cell_of_row _ _ _ _ _ _ hc]; rfl
    · obtain rfl := Option.some.inj hj
      rw [cell_of_row _ _ _ _ _ _ hc]; rfl
  simp only [Instr.loadAt, Instr.sureAddr, Sem.run_bind, Sem.run_pure, Result.andThen_ok, run_loadVar_mid w xb 0 24 [v0, v1] _ hr Tryz.underlying24 rfl info40s]
end Go.Proofs
