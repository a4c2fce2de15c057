/- Orders of groups by a record of an enumeration: how a record is checked, and what it proves; How many cosets live at most, plainly; The laws' presentations: they are valid; what Enumerate answers for them; The walk of CosetHolds; Calls as operations of a drawn region; what Enumerate answers, by blocks; tabled of chapter 21 (printed by genU2.py); Representatives lead to their cosets, plainly; Conjugates of subgroups, plainly: the standard table with another base; Free reduction, plainly: words up to cancelling. -/
import Derived.Test.YtcfighimnkfmeaaRbCS22
import Derived.Test.YtcfighimnkfmeaaRbCS20
import Derived.Test.YtcfighimnkfmeaaRbCS21
import Derived.Test.YtcfighimnkfmeaaRbCS18
import Derived.Test.YtcfighimnkfmeaaRbCS1
namespace Go.Proofs.Ct
/-- rows of numbers of ten bits -/
def gt (a k : Nat) : Nat := Nat.mod (Nat.shiftRight a (Nat.mul 10 k)) 1024
def pt (a k v : Nat) : Nat := Nat.add a (Nat.shiftLeft v (Nat.mul 10 k))
theorem gt_eq (a k : Nat) : gt a k = a / 1024 ^ k % 1024 := by
  show (a >>> (10 * k)) % 1024 = _
  rw [Nat.shiftRight_eq_div_pow, Nat.pow_mul]
theorem pt_eq (a k v : Nat) : pt a k v = a + v * 1024 ^ k := by
  show a + v <<< (10 * k) = _
  rw [Nat.shiftLeft_eq, Nat.pow_mul]
theorem gt_pt {a k v : Nat} (h0 : gt a k = 0) (hv : v < 1024) (j : Nat) : gt (pt a k v) j = if j = k then v else gt a j := by
  rw [gt_eq] at h0
  rw [gt_eq, pt_eq, gt_eq]
  have hk : 0 < 1024 ^ k := Nat.pow_pos (by omega)
  rcases Nat.lt_trichotomy j k with h | h | h
  · rw [if_neg (by omega)]
    obtain ⟨d, rfl⟩ := Nat.exists_eq_add_of_lt h
    have hj : 0 < 1024 ^ j := Nat.pow_pos (by omega)
    have e : v * 1024 ^ (j + d + 1) = (v * 1024 ^ d * 1024) * 1024 ^ j := by
      rw [Nat.pow_succ, Nat.pow_add]
      simp only [Nat.mul_comm, Nat.mul_left_comm]
    rw [e, Nat.add_mul_div_right _ _ hj, Nat.add_mul_mod_self_right]
  · subst h
    rw [if_pos rfl, Nat.add_mul_div_right _ _ hk, Nat.add_mod, h0, Nat.zero_add, Nat.mod_mod, Nat.mod_eq_of_lt hv]
  · rw [if_neg (by omega)]
    obtain ⟨d, rfl⟩ := Nat.exists_eq_add_of_lt h
    have e : 1024 ^ (k + d + 1) = 1024 ^ k * (1024 * 1024 ^ d) := by
      rw [Nat.pow_succ, Nat.pow_add, Nat.mul_assoc, Nat.mul_comm (1024 ^ d)]
    have h1 : (a + v * 1024 ^ k) / 1024 ^ k = a / 1024 ^ k + v := Nat.add_mul_div_right _ _ hk
    have h2 : (a / 1024 ^ k + v) / 1024 = a / 1024 ^ k / 1024 := by omega
    rw [e, ← Nat.div_div_eq_div_mul, ← Nat.div_div_eq_div_mul, ← Nat.div_div_eq_div_mul, ← Nat.div_div_eq_div_mul, h1, h2]
theorem nbeq (a b : Nat) : (Nat.beq a b = true) = (a = b) := propext ⟨Nat.eq_of_beq_eq_true, fun h => by rw [h]; exact Nat.beq_refl b⟩
/-- the record's state: how many names, the edges, the names that are other names -/
structure Cs where
  n : Nat
  E : Nat
  A : Nat
def rpC (A : Nat) : Nat → Nat → Nat
  | 0, x => x
  | k + 1, x => match gt A x with
    | 0 => x
    | y + 1 => rpC A k y
def lkC (s : Cs) (x c : Nat) : Nat := match gt s.E (Nat.add (Nat.mul 8 x) c) with
  | 0 => 0
  | y + 1 => Nat.succ (rpC s.A 20 y)
def wkC (s : Cs) : List Nat → Nat → Nat
  | [], x => Nat.succ x
  | c :: w, x => match lkC s x c with
    | 0 => 0
    | y + 1 => wkC s w y
def alC (s : Cs) (a b : Nat) : Cs := cond (Nat.beq (gt s.A b) 0 && Nat.blt a s.n && Nat.blt b s.n) ⟨s.n, s.E, pt s.A b (Nat.succ a)⟩ s
def algC (s : Cs) (a b : Nat) : Cs := cond (Nat.beq a b) s (cond (Nat.blt a b) (alC s a b) (alC s b a))
def haC (s : Cs) (u c v : Nat) : Cs := match lkC s u c with
  | y + 1 => algC s y v
  | 0 => ⟨s.n, pt s.E (Nat.add (Nat.mul 8 u) c) (Nat.succ v), s.A⟩
def lnC (s : Cs) (u c v : Nat) : Cs := haC (haC s u c v) v (flp c) u
def dfC (m : Nat) (s : Cs) (r c : Nat) : Cs := match lkC s r c with
  | 0 => cond (Nat.blt r s.n && Nat.blt c m && Nat.blt s.n 1000) (lnC ⟨Nat.succ s.n, s.E, s.A⟩ r c s.n) s
  | _ + 1 => s
def bkC (w : List Nat) : List Nat := (w.map flp).reverse
def reC (rs : List (List Nat)) (s : Cs) (r k i : Nat) : Cs := cond (Nat.blt r s.n && Nat.blt k rs.length && Nat.blt i (rs.getD k []).length)
  (match wkC s ((rs.getD k []).take i) r with
  | 0 => s
  | u + 1 => match wkC s (bkC ((rs.getD k []).drop (i + 1))) r with
    | 0 => s
    | v + 1 => lnC s u ((rs.getD k []).getD i 0) v) s
def cpC (s : Cs) (x c : Nat) : Cs := match gt s.E (Nat.add (Nat.mul 8 x) c) with
  | 0 => s
  | d + 1 => cond (Nat.blt c 8) (lnC s (rpC s.A 20 x) c (rpC s.A 20 d)) s
def stC (m : Nat) (rs : List (List Nat)) (i : Nat) (s : Cs) : Cs := match Nat.mod i 4 with
  | 0 => dfC m s (Nat.div i 32) (Nat.mod (Nat.div i 4) 8)
  | 1 => reC rs s (Nat.div i 1024) (Nat.mod (Nat.div i 128) 8) (Nat.mod (Nat.div i 4) 32)
  | _ => cpC s (Nat.div i 32) (Nat.mod (Nat.div i 4) 8)
def runC (m : Nat) (rs : List (List Nat)) : Nat → Nat → Cs → Cs
  | 0, _, s => s
  | k + 1, log, s => runC m rs k (Nat.shiftRight log 20) (stC m rs (Nat.mod log 1048576) s)
/-- what holds of a record's state -/
structure OkC (g : Nat) {α : Type} (D : α → Prop) (act : α → Nat → α) (p0 : α) (s : Cs) (f : Nat → α) : Prop where
  n1 : 1 ≤ s.n
  n2 : s.n ≤ 1000
  f0 : f 0 = p0
  dom : ∀ x, x < s.n → D (f x)
  e : ∀ x c y, c < 8 → gt s.E (8 * x + c) = y + 1 → x < s.n ∧ y < s.n ∧ c < 2 * g ∧ act (f x) c = f y
  a : ∀ x y, gt s.A x = y + 1 → x < s.n ∧ y < s.n ∧ f x = f y
section
variable {g : Nat} {rels : List W} {α : Type} {D : α → Prop} {act : α → Nat → α} {p0 : α} {s : Cs} {f : Nat → α}
theorem OkC.rp (h : OkC g D act p0 s f) : ∀ (k : Nat) {x : Nat}, x < s.n → rpC s.A k x < s.n ∧ f (rpC s.A k x) = f x
  | 0, x, hx => ⟨hx, rfl⟩
  | k + 1, x, hx => by
    rw [rpC]
    cases hg : gt s.A x with
    | zero => exact ⟨hx, rfl⟩
    | succ y =>
      obtain ⟨h1, h2, h3⟩ := h.a x y hg
      obtain ⟨h4, h5⟩ := h.rp k h2
      exact ⟨h4, h5.trans h3.symm⟩
theorem OkC.lk (h : OkC g D act p0 s f) {x c y : Nat} (hc : c < 8) (e : lkC s x c = y + 1) : x < s.n ∧ y < s.n ∧ c < 2 * g ∧ act (f x) c = f y := by
  unfold lkC at e
  cases hg : gt s.E (Nat.add (Nat.mul 8 x) c) with
  | zero => rw [hg] at e; cases e
  | succ z =>
    rw [hg] at e
    obtain ⟨h1, h2, h3, h4⟩ := h.e x c z hc hg
    obtain ⟨h5, h6⟩ := h.rp 20 h2
    have e' : rpC s.A 20 z = y := Nat.succ.inj e
    rw [e'] at h5 h6
    exact ⟨h1, h5, h3, by rw [h4, h6]⟩
theorem lkC_zero {x c : Nat} (e : lkC s x c = 0) : gt s.E (8 * x + c) = 0 := by
  unfold lkC at e
  show gt s.E (Nat.add (Nat.mul 8 x) c) = 0
  cases hg : gt s.E (Nat.add (Nat.mul 8 x) c) with
  | zero => rfl
  | succ z => rw [hg] at e; cases e
theorem OkC.al (h : OkC g D act p0 s f) {a b : Nat} (e : f a = f b) : OkC g D act p0 (alC s a b) f := by
  unfold alC
  cases hc : (Nat.beq (gt s.A b) 0 && Nat.blt a s.n && Nat.blt b s.n) with
  | false => exact h
  | true =>
    simp only [Bool.and_eq_true, nbeq, Nat.blt_eq] at hc
    have hn := h.n2
    refine ⟨h.n1, h.n2, h.f0, h.dom, h.e, fun x y hx => ?_⟩
    show x < s.n ∧ y < s.n ∧ f x = f y
    have hx' : gt (pt s.A b (a + 1)) x = y + 1 := hx
    rw [gt_pt hc.1.1 (by omega)] at hx'
    split at hx'
    · rename_i e1
      have : a = y := by omega
      rw [e1, ← this]
      exact ⟨hc.2, hc.1.2, e.symm⟩
    · exact h.a x y hx'
theorem OkC.alg (h : OkC g D act p0 s f) {a b : Nat} (e : f a = f b) : OkC g D act p0 (algC s a b) f := by
  unfold algC
  cases Nat.beq a b with
  | true => exact h
  | false =>
    cases Nat.blt a b with
    | true => exact h.al e
    | false => exact h.al e.symm
theorem flp8 {c : Nat} (h : c < 8) : flp c < 8 := flp_lt2 (g := 4) h
theorem key_inj {x c y d : Nat} (hc : c < 8) (hd : d < 8) (e : 8 * x + c = 8 * y + d) : x = y ∧ c = d := by omega
theorem OkC.put (h : OkC g D act p0 s f) {u v c : Nat} (hu : u < s.n) (hv : v < s.n) (hc : c < 2 * g) (hc8 : c < 8) (e : act (f u) c = f v) (h1 : gt s.E (8 * u + c) = 0) :
    OkC g D act p0 ⟨s.n, pt s.E (8 * u + c) (v + 1), s.A⟩ f := by
  have hn := h.n2
  have e1 := gt_pt h1 (show v + 1 < 1024 by omega)
  refine ⟨h.n1, h.n2, h.f0, h.dom, fun x k y hk hx => ?_, h.a⟩
  have hx' : gt (pt s.E (8 * u + c) (v + 1)) (8 * x + k) = y + 1 := hx
  rw [e1] at hx'
  show x < s.n ∧ y < s.n ∧ k < 2 * g ∧ act (f x) k = f y
  split at hx'
  · rename_i e2
    obtain ⟨rfl, rfl⟩ := key_inj hk hc8 e2
    have : y = v := by omega
    rw [this]
    exact ⟨hu, hv, hc, e⟩
  · exact h.e x k y hk hx'
theorem n_al (s : Cs) (a b : Nat) : (alC s a b).n = s.n := by unfold alC; cases (Nat.beq (gt s.A b) 0 && Nat.blt a s.n && Nat.blt b s.n) <;> rfl
theorem n_alg (s : Cs) (a b : Nat) : (algC s a b).n = s.n := by
  unfold algC
  cases Nat.beq a b with
  | true => rfl
  | false =>
    cases Nat.blt a b with
    | true => exact n_al s a b
    | false => exact n_al s b a
theorem n_ha (s : Cs) (u c v : Nat) : (haC s u c v).n = s.n := by
  unfold haC
  cases lkC s u c with
  | zero => rfl
  | succ y => exact n_alg s y v
theorem OkC.ha (h : OkC g D act p0 s f) {u v c : Nat} (hu : u < s.n) (hv : v < s.n) (hc : c < 2 * g) (hc8 : c < 8) (e : act (f u) c = f v) : OkC g D act p0 (haC s u c v) f := by
  unfold haC
  cases h1 : lkC s u c with
  | succ y =>
    obtain ⟨-, -, -, h2⟩ := h.lk hc8 h1
    exact h.alg (by rw [← h2, e])
  | zero => exact h.put hu hv hc hc8 e (lkC_zero h1)
theorem OkC.ln (h : OkC g D act p0 s f) (hM : Mdl g rels D act) {u v c : Nat} (hu : u < s.n) (hv : v < s.n) (hc : c < 2 * g) (hc8 : c < 8) (e : act (f u) c = f v) : OkC g D act p0 (lnC s u c v) f := by
  have h1 := h.ha hu hv hc hc8 e
  have hn := n_ha s u c v
  exact h1.ha (by rw [hn]; exact hv) (by rw [hn]; exact hu) (flp_lt2 hc) (flp8 hc8) (by rw [← e]; exact hM.inv _ _ (h.dom u hu) hc)
theorem OkC.df (h : OkC g D act p0 s f) (hM : Mdl g rels D act) (hg : 2 * g ≤ 8) (r c : Nat) : ∃ f', OkC g D act p0 (dfC (2 * g) s r c) f' := by
  unfold dfC
  cases h1 : lkC s r c with
  | succ y => exact ⟨f, h⟩
  | zero =>
    simp only
    cases hc : (Nat.blt r s.n && Nat.blt c (2 * g) && Nat.blt s.n 1000) with
    | false => exact ⟨f, h⟩
    | true =>
      simp only [Bool.and_eq_true, Nat.blt_eq] at hc
      obtain ⟨⟨h2, h3⟩, h4⟩ := hc
      have hn1 := h.n1
      refine ⟨fun x => if x = s.n then act (f r) c else f x, ?_⟩
      have h5 : OkC g D act p0 ⟨s.n + 1, s.E, s.A⟩ (fun x => if x = s.n then act (f r) c else f x) := by
        refine ⟨by show 1 ≤ s.n + 1; omega, by show s.n + 1 ≤ 1000; omega, by rw [if_neg (by omega)]; exact h.f0, fun x hx => ?_, fun x k y hk hx => ?_, fun x y hx => ?_⟩
        · have hx' : x < s.n + 1 := hx
          split
          · exact hM.cl _ _ (h.dom r h2) h3
          · exact h.dom x (by omega)
        · obtain ⟨a, b, c', d⟩ := h.e x k y hk hx
          rw [if_neg (by omega), if_neg (by omega)]
          exact ⟨Nat.lt_succ_of_lt a, Nat.lt_succ_of_lt b, c', d⟩
        · obtain ⟨a, b, c'⟩ := h.a x y hx
          rw [if_neg (by omega), if_neg (by omega)]
          exact ⟨Nat.lt_succ_of_lt a, Nat.lt_succ_of_lt b, c'⟩
      exact h5.ln hM (u := r) (v := s.n) (c := c) (by show r < s.n + 1; omega) (by show s.n < s.n + 1; omega) h3 (by omega) (by rw [if_neg (by omega), if_pos rfl])
theorem actW_cols (w : W) : ∀ p : α, actW act p w = (w.map col).foldl act p := by
  induction w with
  | nil => intro p; rfl
  | cons l w ih => intro p; exact ih _
theorem OkC.wk (h : OkC g D act p0 s f) (hg : 2 * g ≤ 8) : ∀ {w : List Nat} {x y : Nat}, (∀ c ∈ w, c < 2 * g) → x < s.n → wkC s w x = y + 1 → y < s.n ∧ w.foldl act (f x) = f y := by
  intro w
  induction w with
  | nil =>
    intro x y _ hx e
    have e' : x = y := Nat.succ.inj e
    rw [← e']; exact ⟨hx, rfl⟩
  | cons c w ih =>
    intro x y hw hx e
    rw [wkC] at e
    have hc := hw c (List.mem_cons_self ..)
    cases h1 : lkC s x c with
    | zero => rw [h1] at e; cases e
    | succ z =>
      rw [h1] at e
      obtain ⟨-, h2, -, h3⟩ := h.lk (by omega) h1
      rw [List.foldl_cons, h3]
      exact ih (fun c hc => hw c (List.mem_cons_of_mem _ hc)) h2 e
theorem fold_bk (hM : Mdl g rels D act) : ∀ {w : List Nat} {p : α}, (∀ c ∈ w, c < 2 * g) → D p → (bkC w).foldl act (w.foldl act p) = p := by
  intro w
  induction w with
  | nil => intro p _ _; rfl
  | cons c w ih =>
    intro p hw hp
    have hc := hw c (List.mem_cons_self ..)
    have e : bkC (c :: w) = bkC w ++ [flp c] := by simp [bkC]
    rw [e, List.foldl_append, List.foldl_cons (l := w), List.foldl_cons, ih (fun c hc => hw c (List.mem_cons_of_mem _ hc)) (hM.cl _ _ hp hc)]
    exact hM.inv _ _ hp hc
theorem mem_bk {w : List Nat} (h : ∀ c ∈ w, c < 2 * g) : ∀ c ∈ bkC w, c < 2 * g := fun c hc => by
  unfold bkC at hc
  obtain ⟨d, hd, rfl⟩ := List.mem_map.1 (List.mem_reverse.1 hc)
  exact flp_lt2 (h d hd)
theorem OkC.re (h : OkC g D act p0 s f) (hM : Mdl g rels D act) (hg : 2 * g ≤ 8) {rs : List (List Nat)} (hrs : rs = rels.map fun w => w.map col) (hr : ∀ j, j < rels.length → LOk g (rels.getD j [])) (r k i : Nat) : OkC g D act p0 (reC rs s r k i) f := by
  unfold reC
  cases hc : (Nat.blt r s.n && Nat.blt k rs.length && Nat.blt i (rs.getD k []).length) with
  | false => exact h
  | true =>
    simp only [Bool.and_eq_true, Nat.blt_eq] at hc
    obtain ⟨⟨h1, h2⟩, h3⟩ := hc
    simp only [cond_true]
    have hk : k < rels.length := by rw [hrs, List.length_map] at h2; exact h2
    have hw : rs.getD k [] = (rels.getD k []).map col := by rw [hrs]; simp [List.getD_eq_getElem?_getD, hk]
    have hall : ∀ c ∈ rs.getD k [], c < 2 * g := fun c hc => by
      rw [hw] at hc
      obtain ⟨l, hl, rfl⟩ := List.mem_map.1 hc
      exact col_ltL (hr k hk l hl)
    have hcl : (rs.getD k []).foldl act (f r) = f r := by
      rw [hw, ← actW_cols]
      exact hM.rel _ k (h.dom r h1) hk
    generalize rs.getD k [] = w at *
    cases h4 : wkC s (w.take i) r with
    | zero => exact h
    | succ u =>
      simp only
      cases h5 : wkC s (bkC (w.drop (i + 1))) r with
      | zero => exact h
      | succ v =>
        simp only
        have hd : ∀ c ∈ w.drop (i + 1), c < 2 * g := fun c hc => hall c (List.mem_of_mem_drop hc)
        obtain ⟨h6, h7⟩ := h.wk hg (fun c hc => hall c (List.mem_of_mem_take hc)) h1 h4
        obtain ⟨h8, h9⟩ := h.wk hg (mem_bk hd) h1 h5
        have hci : w.getD i 0 < 2 * g := by
          rw [List.getD_eq_getElem?_getD, List.getElem?_eq_getElem h3]
          exact hall _ (List.getElem_mem h3)
        refine h.ln hM h6 h8 hci (by omega) ?_
        have e : w = w.take i ++ w.getD i 0 :: w.drop (i + 1) := by
          rw [List.getD_eq_getElem?_getD, List.getElem?_eq_getElem h3]
          simp
        rw [e, List.foldl_append, List.foldl_cons, h7] at hcl
        have hD1 : D (act (f u) (w.getD i 0)) := hM.cl _ _ (h.dom u h6) hci
        rw [← fold_bk hM hd hD1, hcl, h9]
theorem OkC.cp (h : OkC g D act p0 s f) (hM : Mdl g rels D act) (x c : Nat) : OkC g D act p0 (cpC s x c) f := by
  unfold cpC
  cases h1 : gt s.E (Nat.add (Nat.mul 8 x) c) with
  | zero => exact h
  | succ d =>
    simp only
    cases h2 : Nat.blt c 8 with
    | false => exact h
    | true =>
      rw [Nat.blt_eq] at h2
      obtain ⟨h3, h4, h5, h6⟩ := h.e x c d h2 h1
      obtain ⟨h7, h8⟩ := h.rp 20 h3
      obtain ⟨h9, h10⟩ := h.rp 20 h4
      exact h.ln hM h7 h9 h5 h2 (by rw [h8, h10]; exact h6)
theorem OkC.run (hM : Mdl g rels D act) (hg : 2 * g ≤ 8) {rs : List (List Nat)} (hrs : rs = rels.map fun w => w.map col) (hr : ∀ j, j < rels.length → LOk g (rels.getD j [])) : ∀ (k log : Nat) {s : Cs} {f : Nat → α}, OkC g D act p0 s f → ∃ f', OkC g D act p0 (runC (2 * g) rs k log s) f'
  | 0, _, _, f, h => ⟨f, h⟩
  | k + 1, log, s, f, h => by
    rw [runC]
    have h1 : ∃ f', OkC g D act p0 (stC (2 * g) rs (Nat.mod log 1048576) s) f' := by
      unfold stC
      split
      · exact h.df hM hg _ _
      · exact ⟨f, h.re hM hg hrs hr _ _ _⟩
      · exact ⟨f, h.cp hM _ _⟩
    obtain ⟨f1, h2⟩ := h1
    exact OkC.run hM hg hrs hr k _ h2
end
/-- the regular table of a group: it satisfies the relators, and maps onto whatever does -/
def Reg (g : Nat) (rels : List W) (n : Nat) : Prop := ∃ act : Nat → Nat → Nat, 1 ≤ n ∧ n ≤ 1000 ∧ Mdl g rels (fun x => x < n) act ∧ (∀ i, 0 < i → i < n → ∃ p c, p < i ∧ c < 2 * g ∧ act p c = i) ∧
  ∀ {α : Type} {D : α → Prop} {act' : α → Nat → α} {p0 : α}, Mdl g rels D act' → D p0 → ∃ φ : Nat → α, φ 0 = p0 ∧ (∀ x, x < n → D (φ x)) ∧ ∀ x c, x < n → c < 2 * g → φ (act x c) = act' (φ x) c
/-- how many cosets there can be -/
theorem Reg.fits {g n : Nat} {rels sub : List W} {t : Tb} (hg : 1 ≤ g ∧ g ≤ 16) (h : Reg g rels n) (hr : ∀ j, j < rels.length → LOk g (rels.getD j [])) (ht : Coset g rels sub t) : (∃ k, n = t.length * k) ∧ (sub.length = 0 → t.length = n) := by
  obtain ⟨act, hn1, hn2, hM, hP, hU⟩ := h
  have hlen : ((List.range n).map fun x => (List.range (2 * g)).map fun c => (act x c : Int)).length = n := by simp
  have hrow : ∀ x, x < n → Tb.row ((List.range n).map fun x => (List.range (2 * g)).map fun c => (act x c : Int)) x = (List.range (2 * g)).map fun c => (act x c : Int) := fun x hx => by
    unfold Tb.row; simp [List.getD_eq_getElem?_getD, hx]
  have hat : ∀ x c, x < n → c < 2 * g → Tb.at ((List.range n).map fun x => (List.range (2 * g)).map fun c => (act x c : Int)) x c = (act x c : Int) := fun x c hx hc => by
    unfold Tb.at
    rw [hrow x hx]; simp [List.getD_eq_getElem?_getD, hc]
  generalize ((List.range n).map fun x => (List.range (2 * g)).map fun c => (act x c : Int)) = u at *
  have hu : Full g u := by
    refine ⟨⟨hg.1, hg.2, by omega, by omega, fun r hr => by rw [hrow r (by omega)]; simp, fun r hr c hc => ?_, fun r hr c hc _ => ?_⟩, fun r hr c hc => by rw [hat r c (by omega) hc]; omega, fun x hx => ?_⟩
    · rw [hat r c (by omega) hc]
      have := hM.cl r c (by omega) hc
      omega
    · have h1 := hM.cl r c (by omega) hc
      rw [hat r c (by omega) hc, Int.toNat_natCast, hat _ _ h1 (flp_lt2 hc), hM.inv r c (by omega) hc]
    · rw [hlen] at hx
      induction x using Nat.strongRecOn with
      | _ x ih =>
        rcases Nat.eq_zero_or_pos x with h0 | h0
        · rw [h0]; exact .refl _
        · obtain ⟨p, c, h1, h2, h3⟩ := hP x h0 hx
          exact .step (ih p h1 (by omega)) h2 (by unfold Edge; rw [hat p c (by omega) h2, h3])
  -- the regular table maps onto t
  obtain ⟨φ, h1, h2, h3⟩ := hU (ht.full.mdl hr ht.rel) ht.full.good.n1
  have hH : Hm g u t φ := ⟨fun x hx => h2 x (by omega), fun x c y hx hc he => by
    have h4 := h3 x c (by omega) hc
    unfold Edge at he
    rw [hat x c (by omega) hc] at he
    have : act x c = y := by omega
    rw [this] at h4
    rw [h4]
    exact (ht.full.nx (h2 x (by omega)) hc).2⟩
  obtain ⟨k, hk⟩ := hH.dvd hu ht.full
  rw [hlen] at hk
  refine ⟨⟨k, hk⟩, fun hsub => ?_⟩
  obtain ⟨ψ, k1, k2, k3⟩ := ht.univ hM (show (0 : Nat) < n by omega) (fun j hj => absurd hj (by omega))
  have hH2 : Hm g t u ψ := ⟨fun x hx => by rw [hlen]; exact k2 x hx, fun x c y hx hc he => by
    unfold Edge
    rw [hat _ c (k2 x hx) hc, k3 x c y hx hc he]⟩
  obtain ⟨k', hk'⟩ := hH2.dvd ht.full hu
  rw [hlen] at hk'
  have hn0 := ht.full.good.n1
  have e1 : t.length ≤ n := by
    rcases Nat.eq_zero_or_pos k with h0 | h0
    · rw [h0] at hk; omega
    · rw [hk]; exact Nat.le_mul_of_pos_right _ h0
  have e2 : n ≤ t.length := by
    rcases Nat.eq_zero_or_pos k' with h0 | h0
    · rw [h0] at hk'; omega
    · rw [hk']; exact Nat.le_mul_of_pos_right _ h0
  omega
end Go.Proofs.Ct
namespace Go.Proofs.Ct
def MI (s : St) : Prop := s.live ≤ s.most ∧ s.most ≤ s.t.length
section
variable {g lim : Nat} {s s1 : St} {rels sub : List W}
theorem live_le (h : Rest g s) (h1 : Rest g s1) (he : Ext g s s1) (hn : s1.t.length = s.t.length) : s1.live ≤ s.live := by
  have a := h.lv
  have b := h1.lv
  have hd : dc s ≤ dc s1 := by
    unfold dc
    rw [hn]
    refine List.countP_mono_left fun x hx hp => ?_
    have hx' : x < s.t.length := by simpa using hx
    have h2 : s.rp x ≠ x := by simpa using hp
    have h3 := h.inv.rle x hx'
    have h4 := he.coarse x hx'
    have h5 := h1.inv.rle (s.rp x) (by rw [hn]; exact h.inv.rlt hx')
    have : s1.rp x ≠ x := by omega
    simpa using this
  omega
theorem MI.ext (hm : MI s) (h : Rest g s) (h1 : Rest g s1) (he : Ext g s s1) (hn : s1.t.length = s.t.length) (hmo : s1.most = s.most) : MI s1 := by
  have := live_le h h1 he hn
  unfold MI at hm ⊢
  omega
theorem MI.defn (hm : MI s) (h : Rest g s) (r c : Nat) : MI (defS (2 * g) s r c) := by
  have hl := length_def (s := s) (2 * g) r c
  have h1 : (defS (2 * g) s r c).live = s.live + 1 := rfl
  have h2 : (defS (2 * g) s r c).most = max s.most (s.live + 1) := rfl
  have := h.lv
  unfold MI at hm ⊢
  omega
theorem fillF_mi : ∀ (fuel : Nat) {s : St}, Good g lim s → MI s → ∀ {r : Nat}, r < s.t.length → s.rp r = r → ∀ {w : W}, LOk g w → ∀ s', fillF (2 * g) lim fuel s r w = some s' → MI s'
  | 0, _, _, _, _, _, _, _, _, s', e => by cases e
  | fuel + 1, s, h, hm, r, hr, hl, w, hw, s', e => by
    obtain ⟨a, b⟩ := scan_rest h.rest hr hl hw
    unfold fillF at e
    cases hsc : scanS (2 * g) s r w with
    | mk s2 o =>
      rw [hsc] at e
      cases o with
      | none =>
        simp only at e
        cases e
        obtain ⟨h1, h2, h3, h4⟩ := a s' hsc
        exact hm.ext h.rest h1 h2 h3 h4
      | some fc =>
        obtain ⟨f, c⟩ := fc
        simp only at e
        obtain ⟨-, h2, h3, h4, h5⟩ := b _ _ _ hsc
        split at e
        · cases e
        · rename_i hne
          obtain ⟨k1, k2⟩ := h.defn h2 h3 h4 h5 (by have := h.n2; omega)
          have hn := length_def (s := s) (2 * g) f c
          exact fillF_mi fuel k1 (hm.defn h.rest f c) (r := r) (by omega) (by rw [rp_def_old h.rest.inv _ _ _ hr]; exact hl) hw s' e
theorem run_mi (hg : 1 ≤ lim) (hr : ∀ j, j < rels.length → LOk g (rels.getD j [])) (hs : ∀ j, j < sub.length → LOk g (sub.getD j [])) {s' : St} (e : runS (2 * g) lim rels sub = some s') : MI s' := by
  unfold runS at e
  cases hx : optTo (subS (2 * g) lim sub) sub.length (startS (2 * g)) with
  | none => rw [hx] at e; cases e
  | some x =>
    rw [hx] at e
    have hst : (startS (2 * g)).t.length = 1 := by unfold startS; rw [length_add]; rfl
    have h0 : MI (startS (2 * g)) := by
      have h1 : (startS (2 * g)).live = 1 := rfl
      have h2 : (startS (2 * g)).most = 1 := rfl
      unfold MI
      omega
    obtain ⟨hG, hm⟩ := optTo_inv (p := fun _ s => Good g lim s ∧ MI s) ⟨start_good hg, h0⟩ sub.length (fun i x y hi ⟨hx, hm⟩ hy => by
      have hl := rp_zero hx.rest hx.n1
      exact ⟨(fill_good hx hx.n1 hl (getD_all hs LOk.nil i) hy).1, fillF_mi _ hx hm hx.n1 hl (getD_all hs LOk.nil i) _ hy⟩) x hx
    exact (optTo_inv (p := fun _ s => Good g lim s ∧ MI s) ⟨hG, hm⟩ lim (fun r x y _ ⟨hx, hm⟩ hy => by
      unfold rowsS at hy
      split at hy
      · rename_i hlt
        unfold rowS at hy
        cases hz : optTo (relS (2 * g) lim rels r) rels.length x with
        | none => rw [hz] at hy; cases hy
        | some z =>
          rw [hz] at hy
          obtain ⟨⟨hzG, hzE⟩, hzm⟩ := optTo_inv (p := fun _ y => (Good g lim y ∧ Ext g x y) ∧ MI y) ⟨⟨hx, Ext.refl hx.rest⟩, hm⟩ rels.length (fun i y v hi ⟨⟨hy1, hy2⟩, hm⟩ hv => by
            have hry : r < y.t.length := Nat.lt_of_lt_of_le hlt hy2.n
            unfold relS at hv
            split at hv
            · rename_i hl
              obtain ⟨a, b⟩ := fill_good hy1 hry hl (getD_all hr LOk.nil i) hv
              exact ⟨⟨a, hy2.trans hx.rest hy1.rest b⟩, fillF_mi _ hy1 hm hry hl (getD_all hr LOk.nil i) _ hv⟩
            · cases hv
              exact ⟨⟨hy1, hy2⟩, hm⟩) z hz
          obtain ⟨⟨hyG, hyE⟩, hym⟩ := optTo_inv (p := fun _ y => (Good g lim y ∧ Ext g z y) ∧ MI y) ⟨⟨hzG, Ext.refl hzG.rest⟩, hzm⟩ (2 * g) (fun c y v hc ⟨⟨hy1, hy2⟩, hm⟩ hv => by
            have hry : r < y.t.length := Nat.lt_of_lt_of_le hlt (Nat.le_trans hzE.n hy2.n)
            unfold colS at hv
            split at hv
            · rename_i hl
              split at hv
              · cases hv
              · rename_i hne
                cases hv
                obtain ⟨a, b⟩ := hy1.defn hry hc hl.1 hl.2 (by have := hy1.n2; omega)
                exact ⟨⟨a, hy2.trans hzG.rest hy1.rest b⟩, hm.defn hy1.rest r c⟩
            · cases hv
              exact ⟨⟨hy1, hy2⟩, hm⟩) y hy
          exact ⟨hyG, hym⟩
      · cases hy
        exact ⟨hx, hm⟩) s' e).2
theorem livTo_dc (s : St) : ∀ n, (livTo s n).length + (List.range n).countP (fun x => decide (s.rp x ≠ x)) = n
  | 0 => rfl
  | n + 1 => by
    have ih := livTo_dc s n
    rw [livTo_succ, List.range_succ, List.countP_append]
    by_cases h : s.rp n = n
    · rw [if_pos h]; simp [h]; simp at ih; omega
    · rw [if_neg h]; simp [h]; simp at ih; omega
theorem liv_live (h : Rest g s) : ((liv s).length : Int) = s.live := by
  have h1 := h.lv
  have h2 := livTo_dc s s.t.length
  have h3 : (liv s).length + dc s = s.t.length := h2
  omega
end
end Go.Proofs.Ct
namespace Go.Proofs
open Go.RowKit Go.Shelf Go.Proofs.Ct Go.Maps
theorem letBad_ok {g : Nat} {w : W} (h : LOk g w) : w.any (letBad g) = false := by
  rw [List.any_eq_false]
  intro x hx
  have := h x hx
  unfold letBad
  simp
  omega
theorem sumTo_short {l : List W} {m : Nat} (h : ∀ j, (l.getD j []).length ≤ m) : ∀ k, sumTo l k ≤ k * m
  | 0 => by simp [sumTo, foldTo]
  | k + 1 => by
    have := sumTo_short h k
    have := h k
    show sumTo l k + (l.getD k []).length ≤ (k + 1) * m
    rw [Nat.add_mul]
    omega
/-- words in g generators, few and short -/
structure Wds (g : Nat) (l : List W) (n m : Nat) : Prop where
  len : l.length ≤ n
  short : ∀ j, (l.getD j []).length ≤ m
  ok : ∀ j, j < l.length → LOk g (l.getD j [])
theorem Wds.pres {g n m : Nat} {l : List W} (h : Wds g l n m) (hg : 1 ≤ g ∧ g ≤ 16) (hn : n ≤ 100) (hnm : n * m ≤ 4000) : presE g l = 0 := by
  refine presE_none hg (Nat.le_trans h.len hn) fun j hj => ?_
  unfold presBad
  have h1 := sumTo_short h.short (j + 1)
  have h2 : (j + 1) * m ≤ n * m := Nat.mul_le_mul_right _ (by have := h.len; omega)
  rw [if_neg (by omega), if_neg (by rw [letBad_ok (h.ok j hj)]; simp)]
theorem Wds.good {g n m : Nat} {l : List W} (h : Wds g l n m) (hn : n ≤ 100) (hnm : n * m ≤ 4000) {lim : Nat} (hl : 1 ≤ lim ∧ lim ≤ 20000) : badArgs g l (lim : Int) = false := by
  have h1 := sumTo_short h.short l.length
  have h2 : l.length * m ≤ n * m := Nat.mul_le_mul_right _ h.len
  have h3 := h.len
  have h4 : (l.any fun w => w.any (letBad g)) = false := by
    rw [List.any_eq_false]
    intro w hw
    obtain ⟨j, hj, rfl⟩ := List.mem_iff_getElem.1 hw
    have := h.ok j hj
    rw [List.getD_eq_getElem?_getD, List.getElem?_eq_getElem hj] at this
    have h5 := letBad_ok this
    simp only [Option.getD_some] at h5
    rw [h5]; simp
  unfold badArgs
  rw [h4]
  simp only [Bool.or_false, Bool.or_eq_false_iff, decide_eq_false_iff_not]
  omega
theorem mem_wordsTo {g most : Nat} (hg : 1 ≤ g) : ∀ (f : Nat) (l : List Int), ∀ w ∈ wordsTo g most f l, w.length ≤ most ∧ LOk g w
  | 0, _, w, h => by simp [wordsTo] at h
  | _ + 1, [], w, h => by simp [wordsTo] at h
  | f + 1, x :: l, w, h => by
    rw [wordsTo] at h
    rcases List.mem_cons.1 h with rfl | h
    · refine ⟨?_, fun y hy => ?_⟩
      · rw [length_wordOf, List.length_take]
        have := Int.emod_lt_of_pos x (show (0 : Int) < ((most + 1 : Nat) : Int) by omega)
        have := Int.emod_nonneg x (show ((most + 1 : Nat) : Int) ≠ 0 by omega)
        omega
      · unfold wordOf at hy
        obtain ⟨z, -, rfl⟩ := List.mem_map.1 hy
        have h1 := Int.emod_lt_of_pos z (show (0 : Int) < ((2 * g : Nat) : Int) by omega)
        have h2 := Int.emod_nonneg z (show ((2 * g : Nat) : Int) ≠ 0 by omega)
        exact letter_range (by omega)
    · exact mem_wordsTo hg f _ w h
theorem wds_of_mem {g n m : Nat} {l : List W} (hn : l.length ≤ n) (h : ∀ w ∈ l, w.length ≤ m ∧ LOk g w) : Wds g l n m := by
  refine ⟨hn, fun j => ?_, fun j hj => ?_⟩
  · rw [List.getD_eq_getElem?_getD]
    rcases Nat.lt_or_ge j l.length with hj | hj
    · rw [List.getElem?_eq_getElem hj]; exact (h _ (List.getElem_mem hj)).1
    · rw [List.getElem?_eq_none hj]; exact Nat.zero_le _
  · rw [List.getD_eq_getElem?_getD, List.getElem?_eq_getElem hj]
    exact (h _ (List.getElem_mem hj)).2
theorem wds_law {g : Nat} (hg : 1 ≤ g) (m : Nat) (l : List Int) : Wds g (lawWords g m l) m 12 := wds_of_mem (by unfold lawWords; rw [List.length_take]; omega) fun w hw => mem_wordsTo hg _ _ w (List.mem_of_mem_take hw)
/-- the known presentations -/
def knownB (i : Nat) : Bool := decide (1 ≤ (knownT i).1 ∧ (knownT i).1 ≤ 3) && decide ((knownT i).2.1.length ≤ 6) && ((knownT i).2.1.all fun w => decide (w.length ≤ 60) && w.all fun x => decide (-(knownT i).1 ≤ x) && decide (x ≤ (knownT i).1) && decide (x ≠ 0))
theorem known_wds {i : Nat} (h : knownB i = true) : ∃ g : Nat, (knownT i).1 = (g : Int) ∧ 1 ≤ g ∧ g ≤ 3 ∧ Wds g (knownT i).2.1 6 60 := by
  unfold knownB at h
  simp only [Bool.and_eq_true, decide_eq_true_eq] at h
  obtain ⟨⟨⟨h1, h2⟩, h3⟩, h4⟩ := h
  refine ⟨(knownT i).1.toNat, by omega, by omega, by omega, wds_of_mem h3 fun w hw => ?_⟩
  have h5 := List.all_eq_true.1 h4 w hw
  simp only [Bool.and_eq_true, decide_eq_true_eq] at h5
  refine ⟨h5.1, fun x hx => ?_⟩
  have h6 := List.all_eq_true.1 h5.2 x hx
  simp only [Bool.and_eq_true, decide_eq_true_eq] at h6
  omega
theorem known_all : ∀ i, i < 14 → knownB i = true := by decide +kernel
theorem mod14 (x : Int) : (x % 14).toNat < 14 := by
  have h1 := Int.emod_nonneg x (show (14 : Int) ≠ 0 by omega)
  have h2 := Int.emod_lt_of_pos x (show (0 : Int) < 14 by omega)
  omega
theorem given_wds (m : Nat) (hm : m ≤ 6) (which : Int) (l : List Int) : ∃ g : Nat, (givenP m which l).1 = (g : Int) ∧ 1 ≤ g ∧ g ≤ 3 ∧ Wds g (givenP m which l).2 6 60 := by
  unfold givenP
  split
  · exact known_wds (known_all _ (mod14 _))
  · have h1 := Int.emod_nonneg (which.tdiv 2) (show (3 : Int) ≠ 0 by omega)
    have h2 := Int.emod_lt_of_pos (which.tdiv 2) (show (0 : Int) < 3 by omega)
    refine ⟨(1 + which.tdiv 2 % 3).toNat, by show (1 + which.tdiv 2 % 3) = _; omega, by omega, by omega, ?_⟩
    have := wds_law (g := (1 + which.tdiv 2 % 3).toNat) (by omega) m l
    exact ⟨Nat.le_trans this.len hm, fun j => Nat.le_trans (this.short j) (by omega), this.ok⟩
section
variable {g n m n' m' lim : Nat} {rels sub : List W}
/-- what Enumerate answers: no room, or a coset table that any greater limit gives as well -/
structure EnumT (g : Nat) (rels sub : List W) (lim : Nat) (t : Tb) (d k : Nat) : Prop where
  coset : Coset g rels sub t
  n1 : 1 ≤ t.length
  live : t.length ≤ k
  most : k ≤ d
  room : d ≤ lim
  is : ∀ lim', d ≤ lim' → lim' ≤ 20000 → enumE g rels sub (lim' : Int) = (t, ((d : Int), (k : Int)), 0)
  less : ∀ lim', 1 ≤ lim' → lim' < d → enumE g rels sub (lim' : Int) = ([], (0, 0), 12)
theorem enum_cases (hg : 1 ≤ g ∧ g ≤ 16) (hp : presE g rels = 0) (hr : ∀ j, j < rels.length → LOk g (rels.getD j [])) (hs : ∀ j, j < sub.length → LOk g (sub.getD j [])) (hb : ∀ lim' : Nat, 1 ≤ lim' → lim' ≤ 20000 → badArgs g sub (lim' : Int) = false) (hl : 1 ≤ lim ∧ lim ≤ 20000) :
    enumE g rels sub (lim : Int) = ([], (0, 0), 12) ∨ ∃ t d k, EnumT g rels sub lim t d k := by
  cases hx : runS (2 * g) lim rels sub with
  | none => exact .inl (enumE_full hp (hb lim hl.1 hl.2) hx)
  | some s =>
    right
    obtain ⟨hG, -⟩ := run_good hl.1 hr hs hx
    obtain ⟨h1, h2, h3⟩ := coset_of_run hg.1 hg.2 hl.2 hl.1 hr hs hx
    obtain ⟨m1, m2⟩ := run_mi hl.1 hr hs hx
    have hlv := liv_live hG.rest
    have hm0 := hG.m0
    refine ⟨stdT (tabS s) 0, s.t.length, s.most.toNat, h1, h1.full.good.n1, by rw [h3]; omega, by omega, hG.n2, fun lim' ha hb' => ?_, fun lim' ha hb' => ?_⟩
    · have hn1 := hG.n1
      have h4 := run_mono hl.1 hr hs hx ha
      rw [enumE_some hp (hb lim' (by omega) hb') h4, h2, show ((s.most.toNat : Nat) : Int) = s.most by omega]
    · have hn2 := hG.n2
      exact enumE_full hp (hb lim' ha (by omega)) (run_less hl.1 hr hs hx ha hb')
theorem Ct.Coset.holdsE {t : Tb} (h : Coset g rels sub t) (hp : presE g rels = 0) (hs : ∀ j, j < sub.length → LOk g (sub.getD j [])) : Go.Proofs.holdsE g rels sub t = (true, 0) := by
  have h4 : (sub.any fun w => w.any (letBad g)) = false := by
    rw [List.any_eq_false]
    intro w hw
    obtain ⟨j, hj, rfl⟩ := List.mem_iff_getElem.1 hw
    have := hs j hj
    rw [List.getD_eq_getElem?_getD, List.getElem?_eq_getElem hj] at this
    have h5 := letBad_ok this
    simp only [Option.getD_some] at h5
    rw [h5]; simp
  unfold Go.Proofs.holdsE
  rw [if_neg (by rw [hp]; simp), Int.toNat_natCast, if_neg (by rw [h4]; simp), check_of_good h.full.good, if_neg (by simp), h.holds]
end
end Go.Proofs
namespace Go.Proofs
open Go.RowKit Go.Shelf Go.Proofs.Ct Go.Maps
theorem cells40 {w : World} {b : Nat} {x y : Value} (h : w.heap[b]? = some (.cells #[x, y] 40 (0, 0))) : w.cell? ⟨b, 0, none⟩ = some x ∧ w.cell? ⟨b, 1, none⟩ = some y := by
  refine ⟨?_, ?_⟩ <;> (rw [cell_of_row _ _ _ _ _ _ h]; rfl)
/-- a box of a presentation is read -/
theorem box40 (W : World) (x y : Value) : ∀ V, Below (W.alloc (.cells #[x, y] 40)).heap.size (W.alloc (.cells #[x, y] 40)) V → (Instr.loadAt 40 (.pointer (some ⟨W.heap.size, 0, none⟩))).run Try.prog V = .ok (.agg #[x, y]) V ∧ V.cell? ⟨W.heap.size, 0, none⟩ = some x := fun V h => by
  have h1 := (h.block W.heap.size (by simp)).trans (heap_alloc_new W (.cells #[x, y] 40))
  exact ⟨load40 h1, (cells40 h1).1⟩
end Go.Proofs
namespace Go.Proofs
open Go.RowKit Go.Shelf Go.Proofs.Ct Go.Maps
theorem call39 (args : Array Value) (w : World) : (callFunc 39 args).run Try.prog w = .ok (.enter 39 args) w := enters_of Try.func39 (by kernel_rfl) rfl args w
theorem call40 (args : Array Value) (w : World) : (callFunc 40 args).run Try.prog w = .ok (.enter 40 args) w := enters_of Try.func40 (by kernel_rfl) rfl args w
section
variable {o : Oper} {a : Act} {w w' : World} {n : Nat} {v : Value} {ops : Array Oper}
theorem r_call4 {f : FuncId} (x y z q : Operand) (u v s t : Value) (T : Array TypeId) (ho : o.op = .call { callee := .value (.func f), args := #[x, y, z, q], argTypes := T }) (hx : a.eval x = u) (hy : a.eval y = v) (hz : a.eval z = s) (hq : a.eval q = t)
    (he : ∀ args w, (callFunc f args).run Try.prog w = .ok (.enter f args) w) : (execOp a.eval o).run Try.prog w = .ok (.enter f #[u, v, s, t]) w := by
  have hf : a.eval (.func f) = .func (.func f) #[] #[] := rfl
  unfold execOp
  simp only [ho, resolve, List.map_toArray, List.map_cons, List.map_nil, hx, hy, hz, hq, hf]
  simp [go_sem, he]
theorem idx_offs {T E : TypeId} (hu : Try.prog.underlying T = some (.slice E)) (hs : ∀ w, (sizeOf E).run Try.prog w = .ok 1 w) (g off m c i : Nat) (hi : i < m) (w : World) :
    (Instr.indexAt T (.slice (some ⟨g, off, none⟩) m c) (.int .i64 (i : Int))).run Try.prog w = .ok (.pointer (some ⟨g, off + i, none⟩)) w := by
  have h1 : (0 : Int) ≤ (i : Int) ∧ (i : Int) < (m : Int) := ⟨by omega, by omega⟩
  have h2 := Addr.add_mid g off i
  simp [Instr.indexAt, asIntOf, run_underlying hu, hs, h2, hi]
end
section
variable {N : Nat} {wr : Nat → Bool} {us : Nat → Nat → Bool} {O : Nat → Nat → Prop} {i j : Nat} {w w' W0 : World} {base : Nat} {v : Value}
theorem own_start (hb : base ≤ w.heap.size) : (FP.own []).holds base (.slice (some ⟨w.heap.size, 0, none⟩) 0 0) (Mx N wr us O i w (w.alloc (.cells #[] 3))) (w.alloc (.cells #[] 3)) :=
  ⟨_, _, rfl, owns_base (own_new w) hb, fun r hr => by
    have : w.heap.size = r := Option.some.inj hr
    subst this
    exact Mx.fresh (Nat.le_refl _) (by simp)⟩
theorem ints_new_own {X : List Int} {A : Option Addr} {c : Nat} (hv : v = .slice A X.length c) (ho : OwnI w.heap.size w' (.slice A X.length c) X) (hf : Fits X) : (FP.ints X).holds base v (Mx N wr us O i w w') w' :=
  ⟨A, c, hv, (IntsF.of_own ho hf).mono fun k hk => .inr (Mx.fresh (owns_block ho k hk).1 (owns_lt ho hk))⟩
theorem step_setRow {q : Nat} (hj : j < N) (hu : us i j = true) (hw : wr j = true) (hq : O j q) (cs : Array Value) : Step N wr us O i (Mx N wr us O i w (w.setRow q cs)) w (w.setRow q cs) :=
  ⟨by rw [World.setRow]; simp, fun k _ hn => setRow_other _ _ _ _ fun e => hn j hj hu hw (by rw [e]; exact hq), fun _ h => h⟩
end
theorem agg25 (w : World) : (isAgg 25).run Try.prog w = .ok false w := by kernel_rfl
theorem size25 (w : World) : (sizeOf 25).run Try.prog w = .ok 1 w := by kernel_rfl
end Go.Proofs
namespace Go.Proofs
open Go.RowKit Go.Shelf Go.Proofs.Ct Go.Maps
theorem call98 (args : Array Value) (w : World) : (callFunc 98 args).run Try.prog w = .ok (.enter 98 args) w := enters_of Try.func98 (by kernel_rfl) rfl args w
theorem call33 (args : Array Value) (w : World) : (callFunc 33 args).run Try.prog w = .ok (.enter 33 args) w := enters_of Try.func33 (by kernel_rfl) rfl args w
theorem enumRB (g : Int) (rels sub : List W) (limit : Int) (T : Tb) (x y c : Int) (h : enumE g rels sub limit = (T, (x, y), c)) (h1 : ∀ j, (sub.getD j []).length ≤ 100000) (h2 : ∀ j, (rels.getD j []).length ≤ 100000) (h3 : sub.length ≤ 1000000) (W : World) (vr vs : Value) (hr : Tab W vr rels) (hs : Tab W vs sub) :
    Calls Try.prog 33 #[.agg #[.int .i64 g, vr], vs, .int .i64 limit] W fun e w' => (∃ A m, e = .returned (.tuple #[.slice A T.length m, .agg #[.int .i64 x, .int .i64 y, .int .i64 0], .int .i64 c]) ∧ TabB W.heap.size w' (.slice A T.length m) T) ∧ Below W.heap.size W w' :=
  (enum33_B W vr vs g rels sub limit hr hs h1 h2 h3).mono fun e w' (⟨⟨u, h5, h6⟩, h7⟩ : EnumPostB g rels sub limit W e w') => by
    rw [h] at h5 h6
    obtain ⟨A, m, rfl⟩ := Tab.form h6.at_
    exact ⟨⟨A, m, h5, h6⟩, h7⟩
def TabledPost (T : Tb) (e1 : Int) (w : World) (e : Ending) (w' : World) : Prop := (∃ A c, e = .returned (.tuple #[.slice A T.length c, .bool (decide (e1 = 0) && decide (T.length ≤ 40))]) ∧ Tab w' (.slice A T.length c) T) ∧ Below w.heap.size w w'
set_option maxRecDepth 100000 in
set_option maxHeartbeats 4000000 in
theorem tabled38_any (w : World) (vk : Value) (Ar : Option Addr) (cr g : Nat) (rels : List W) (k : List Int) (T : Tb) (d1 k1 e1 : Int) (hg : 1 ≤ g ∧ g ≤ 400) (hR : Tab w (.slice Ar rels.length cr) rels) (hk : IntsAt w vk k) (hkl : k.length ≤ 1000) (h1 : ∀ j, ((lawWords g 4 k).getD j []).length ≤ 100000) (h2 : ∀ j, (rels.getD j []).length ≤ 100000) (h3 : (lawWords g 4 k).length ≤ 1000000)
    (hE : enumE g rels (lawWords g 4 k) 300 = (T, (d1, k1), e1)) (he1 : e1 = 12 ∨ e1 = 0) (hTl : T.length ≤ 20000) : Calls Try.prog 38 #[.agg #[.int .i64 (g : Int), .slice Ar rels.length cr], vk] w (TabledPost T e1 w) := by
  obtain ⟨Ak, ck, rfl, -, -, -⟩ := hk.open_
  have HLD := Lib.hid (box40 w (.int .i64 (g : Int)) (.slice Ar rels.length cr))
  have hal := (Below.refl w.heap.size w).alloc (Nat.le_refl _) (.cells #[.int .i64 (g : Int), .slice Ar rels.length cr] 40)
  have HB0 := Lib.hid hal
  have H33 := Lib.hid (enumRB g rels (lawWords g 4 k) 300 T d1 k1 e1 hE h1 h2 h3)
  have HWD0 : Hid (∀ W, Below (w.alloc (.cells #[.int .i64 (g : Int), .slice Ar rels.length cr] 40)).heap.size (w.alloc (.cells #[.int .i64 (g : Int), .slice Ar rels.length cr] 40)) W → Calls Try.prog 98 #[.slice Ak k.length ck, .int .i64 (g : Int)] W (LawWordsPost (lawWords g 4 k) W)) := Lib.hid fun W h => words98_any W _ k g (kept_ints.below hk (bl3 hal h)) hg (by omega)
  have HTR : Hid (∀ W, Below (w.alloc (.cells #[.int .i64 (g : Int), .slice Ar rels.length cr] 40)).heap.size (w.alloc (.cells #[.int .i64 (g : Int), .slice Ar rels.length cr] 40)) W → Tab W (.slice Ar rels.length cr) rels) := Lib.hid fun W h => kept_tab.below hR (bl3 hal h)
  have HWD : Hid (∀ W, Below (w.alloc (.cells #[.int .i64 (g : Int), .slice Ar rels.length cr] 40)).heap.size (w.alloc (.cells #[.int .i64 (g : Int), .slice Ar rels.length cr] 40)) W → Calls Try.prog 98 #[.slice Ak k.length ck, .int .i64 (g : Int)] W fun e w' => (∃ A c, e = .returned (.slice A (lawWords g 4 k).length c) ∧ TabB W.heap.size w' (.slice A (lawWords g 4 k).length c) (lawWords g 4 k)) ∧ Below W.heap.size W w') := HWD0
  have hTl' : (T.length : Int) ≤ 20000 := by omega
  clear hal hR hk hE h1 h2 h3 HWD0 hg
  unfold TabledPost
  generalize lawWords g 4 k = sub at *
  go_enter Try.func38, Try.ntmps38
  go_wp2_with fail
  generalize hw3 : w.alloc (.cells #[.int .i64 (g : Int), .slice Ar rels.length cr] 40) = v3 at *
  clear hw3
  refine (wpIn_wide (n := 3)).1 ?_
  refine wpIn_region_own (by kernel_rfl) 14 rfl (fun i => ([some 10, some 11, some 12, some 13, some 14, some 15, some 9, some 16, some 17, some 18, some 7, some 6, none, some 8] : List (Option Nat)).getD i none) (lex_of (by kernel_rfl)) v3.heap.size (fun i => ([10] : List Nat).contains i) (fun i j => (([[], [], [], [2], [1, 3], [0, 4], [5], [6], [6], [6], [], [7], [10, 8], [9]] : List (List Nat)).getD i []).contains j) (fun W => Below v3.heap.size v3 W) (fun j v O W => (([.eq (.agg #[.int .i64 (g : Int), .slice Ar rels.length cr]), .eq (.slice Ak k.length ck), .eq (.pointer (some ⟨w.heap.size, 0, none⟩)), .eq (.int .i64 (g : Int)), .rd sub, .enum T d1 k1 e1, .enum T d1 k1 e1, .rd T, .eq (.agg #[.int .i64 d1, .int .i64 k1, .int .i64 0]), .eq (.int .i64 e1), .box 49 #[.int .i64 0, .int .i64 0, .int .i64 0], .rd T, .any, .eq (.int .i64 e1)] : List FP).getD j FP.any).holds v3.heap.size v O W) (by kernel_rfl) (by kernel_rfl) (dm_inj (by kernel_rfl)) (fun j v O W W' _ _ h hs h1 h2 => FP.keep rfl h1 h2 hs h) (dm_lt (n := 27) (by kernel_rfl)) (Nat.le_refl _) (Below.refl _ _).drew ?_ ?_
  · intro O ls q o a w2 hq ho hS hbw hls hP hpre hdj
    have hcases : q = 0 ∨ q = 1 ∨ q = 2 ∨ q = 3 ∨ q = 4 ∨ q = 5 ∨ q = 6 ∨ q = 7 ∨ q = 8 ∨ q = 9 ∨ q = 10 ∨ q = 11 ∨ q = 12 ∨ q = 13 := by
      have : q < 14 := hq
      omega
    rcases hcases with rfl | rfl | rfl | rfl | rfl | rfl | rfl | rfl | rfl | rfl | rfl | rfl | rfl | rfl
    · obtain rfl := Option.some.inj ho
      exact wpOpIn_of rfl rfl (wpW_val (r_loadAt 40 (.tmp 2) _ _ rfl (hP.out 2 (dm_out (by kernel_rfl))) (HLD.out _ hS).1) ⟨_, _, rfl, hS, (fun h => by simp at h), Step.same, rfl⟩)
    · obtain rfl := Option.some.inj ho
      exact wpOpIn_of rfl rfl (wpW_val (r_move (.tmp 1) rfl (hP.out 1 (dm_out (by kernel_rfl)))) ⟨_, _, rfl, hS, (fun h => by simp at h), Step.same, rfl⟩)
    · obtain rfl := Option.some.inj ho
      exact wpOpIn_of rfl rfl (wpW_val (r_fld (.tmp 2) _ rfl (hP.out 2 (dm_out (by kernel_rfl))) (by kernel_rfl)) ⟨_, _, rfl, hS, (fun h => by simp at h), Step.same, rfl⟩)
    · obtain rfl := Option.some.inj ho
      exact wpOpIn_of rfl rfl (wpW_val (r_load1 3 agg3 (.tmp 12) ⟨w.heap.size, 0, none⟩ rfl (hpre 2 (by decide) rfl).1 (HLD.out _ hS).2) ⟨_, _, rfl, hS, (fun h => by simp at h), Step.same, rfl⟩)
    · obtain rfl := Option.some.inj ho
      exact wpOpIn_of rfl rfl (wpW_call (R := fun v w' => (∃ A c, v = .slice A sub.length c ∧ TabB w2.heap.size w' (.slice A sub.length c) sub) ∧ Below w2.heap.size w2 w') (r_call2 (.tmp 11) (.tmp 13) _ _ _ rfl (hpre 1 (by decide) rfl).1 (hpre 3 (by decide) rfl).1 call98) ((HWD.out _ hS).mono fun e w' ⟨⟨A, c, he, ht⟩, hb⟩ => ⟨_, he, ⟨A, c, rfl, ht⟩, hb⟩)
        (fun v w'' ⟨⟨A, c, hv, ht⟩, hb⟩ => ⟨v, _, rfl, hS.trans (hb.mono hS.size), (fun h => by simp at h), Step.below hb, A, c, hv, (RdT.of_tabB ht).mono fun q hq => .inr (Mx.fresh hq.1 hq.2)⟩))
    · obtain rfl := Option.some.inj ho
      have k9 := hpre 4 (by decide) rfl
      obtain ⟨A, c, e9, t9⟩ := k9.1
      exact wpOpIn_of rfl rfl (wpW_call (R := fun v w' => (∃ A m, v = .tuple #[.slice A T.length m, .agg #[.int .i64 d1, .int .i64 k1, .int .i64 0], .int .i64 e1] ∧ TabB w2.heap.size w' (.slice A T.length m) T) ∧ Below w2.heap.size w2 w') (r_call3 (.tmp 10) (.tmp 14) (.const (.int .i64 300)) _ _ _ _ rfl (hpre 0 (by decide) rfl).1 e9 rfl call33) ((H33.out _ _ _ (HTR.out _ hS) t9.tab).mono fun e w' ⟨⟨A, m, he, ht⟩, hb⟩ => ⟨_, he, ⟨A, m, rfl, ht⟩, hb⟩)
        (fun v w'' ⟨⟨A, m, hv, ht⟩, hb⟩ => ⟨v, _, rfl, hS.trans (hb.mono hS.size), (fun h => by simp at h), Step.below hb, A, m, hv, (RdT.of_tabB ht).mono fun q hq => .inr (Mx.fresh hq.1 hq.2)⟩))
    · obtain rfl := Option.some.inj ho
      have k := hpre 5 (by decide) rfl
      exact wpOpIn_of rfl rfl (wpW_val (r_move (.tmp 15) rfl rfl) ⟨_, _, rfl, hS, (fun h => by simp at h), Step.same, FP.mono (fun q hq => Mx.of (j := 5) (by decide) rfl (by decide) hq (k.2 q hq).2) k.1⟩)
    · obtain rfl := Option.some.inj ho
      have k := hpre 6 (by decide) rfl
      obtain ⟨A, m, e11, t11⟩ := k.1
      exact wpOpIn_of rfl rfl (wpW_val (r_extract 0 (.tmp 9) _ rfl e11 rfl) ⟨_, _, rfl, hS, (fun h => by simp at h), Step.same, A, m, rfl, t11.mono fun q hq => hq.imp id fun h => Mx.of (j := 6) (by decide) rfl (by decide) h (k.2 q h).2⟩)
    · obtain rfl := Option.some.inj ho
      obtain ⟨A, m, e11, -⟩ := (hpre 6 (by decide) rfl).1
      exact wpOpIn_of rfl rfl (wpW_val (r_extract 1 (.tmp 9) _ rfl e11 rfl) ⟨_, _, rfl, hS, (fun h => by simp at h), Step.same, rfl⟩)
    · obtain rfl := Option.some.inj ho
      obtain ⟨A, m, e11, -⟩ := (hpre 6 (by decide) rfl).1
      exact wpOpIn_of rfl rfl (wpW_val (r_extract 2 (.tmp 9) _ rfl e11 rfl) ⟨_, _, rfl, hS, (fun h => by simp at h), Step.same, rfl⟩)
    · obtain rfl := Option.some.inj ho
      have hal : Below w2.heap.size w2 (w2.alloc (.cells #[.int .i64 0, .int .i64 0, .int .i64 0] 49)) := (Below.refl _ _).alloc (Nat.le_refl _) _
      exact wpOpIn_of rfl rfl (wpW_val (r_alloc49 rfl) ⟨_, _, rfl, hS.trans (hal.mono hS.size), (fun h => by simp at h), Step.below hal, w2.heap.size, rfl, Mx.fresh (Nat.le_refl _) (by simp), heap_alloc_new w2 _⟩)
    · obtain rfl := Option.some.inj ho
      have k := hpre 7 (by decide) rfl
      exact wpOpIn_of rfl rfl (wpW_val (r_assign (.tmp 16) rfl rfl) ⟨_, _, rfl, hS, (fun h => by simp at h), Step.same, FP.mono (fun q hq => Mx.of (j := 7) (by decide) rfl (by decide) hq (k.2 q hq).2) k.1⟩)
    · obtain rfl := Option.some.inj ho
      have k15 := hpre 10 (by decide) rfl
      obtain ⟨q, e15, o15, h15⟩ := k15.1
      exact wpOpIn_of rfl rfl (wpW_skip (r_store49 (.tmp 7) (.tmp 17) rfl q _ d1 k1 0 e15 (hpre 8 (by decide) rfl).1 h15 rfl) ⟨undef, _, rfl, below_setRow hS (k15.2 q o15).1 _, fun _ => rfl, step_setRow (j := 10) (by decide) rfl rfl o15 _, trivial⟩)
    · obtain rfl := Option.some.inj ho
      exact wpOpIn_of rfl rfl (wpW_val (r_assign (.tmp 18) rfl (hpre 9 (by decide) rfl).1) ⟨_, _, rfl, hS, (fun h => by simp at h), Step.same, rfl⟩)
  · intro O ls a w2 hall hS hbw hP hsl
    obtain ⟨vs, hvs, hfr⟩ := hP.frame 27 rfl
    obtain ⟨A6, c6, e6, r6⟩ := (hsl 11 (by decide) (.inl rfl)).1
    have e8 : a.tmps.getD 8 undef = .int .i64 e1 := (hsl 13 (by decide) (.inl rfl)).1
    have e6' : a.tmps.getD 6 undef = .slice A6 T.length c6 := e6
    rw [← hvs] at e6' e8
    have HU := Lib.hid r6.tab
    have HRN := Lib.hid hS
    clear hsl hP hall hS hvs r6 e6 H33 HWD hbw
    subst hfr
    dsimp only
    simp only [List.range, List.range.loop, List.map_cons, List.map_nil, List.any_cons, List.any_nil, Nat.reduceBEq, Option.some_beq_some, Option.none_beq_some, Bool.or_false, Bool.false_or, Bool.false_eq_true, if_true, if_false, List.getD_cons_zero, List.getD_cons_succ, e6', e8]
    have hT0 : (0 : Int) ≤ (T.length : Int) := Int.natCast_nonneg _
    rcases he1 with rfl | rfl
    · go_wp2_with fail
      go_ret2
      exact ⟨⟨A6, c6, rfl, HU.out⟩, bl3 HB0.out HRN.out⟩
    · by_cases h40 : T.length ≤ 40
      · have h40' : (T.length : Int) ≤ 40 := by omega
        go_wp2_with fail
        go_ret2
        exact ⟨⟨A6, c6, by simp, HU.out⟩, bl3 HB0.out HRN.out⟩
      · have h40' : 40 < (T.length : Int) := by omega
        go_wp2_with fail
        go_ret2
        exact ⟨⟨A6, c6, (by simp; omega), HU.out⟩, bl3 HB0.out HRN.out⟩
end Go.Proofs
namespace Go.Proofs.Ct
theorem col_letter (c : Nat) : col (letter c) = c := by
  unfold col letter
  split <;> split <;> omega
def RW (t : Tb) (out : List W) : Prop := ∀ j, j < out.length → Way t 0 (out.getD j []) j
section
variable {g : Nat} {t : Tb}
theorem repCol_len (r c : Nat) (out : List W) : out.length ≤ (repCol t r c out).length := by
  unfold repCol
  split
  · simp
  · exact Nat.le_refl _
theorem RW.col {out : List W} (h : RW t out) {r c : Nat} (hr : r < out.length) : RW t (repCol t r c out) := by
  unfold repCol
  split
  · rename_i he
    intro j hj
    rcases Nat.lt_or_ge j out.length with h1 | h1
    · have : (out ++ [out.getD r [] ++ [letter c]]).getD j [] = out.getD j [] := by simp [List.getD_eq_getElem?_getD, List.getElem?_append_left h1]
      rw [this]
      exact h j h1
    · obtain rfl : j = out.length := by simp at hj; omega
      have : (out ++ [out.getD r [] ++ [letter c]]).getD out.length [] = out.getD r [] ++ [letter c] := by simp [List.getD_eq_getElem?_getD]
      rw [this]
      refine way_app.2 ⟨r, h r hr, way_one.2 ?_⟩
      unfold Edge
      rw [col_letter]
      exact he
  · exact h
theorem RW.row {out : List W} (h : RW t out) {r : Nat} (hr : r < out.length) : RW t (repRow t r out) :=
  (foldTo_inv (p := fun _ out => RW t out ∧ r < out.length) ⟨h, hr⟩ _ fun c x _ ⟨h1, h2⟩ => ⟨h1.col h2, Nat.lt_of_lt_of_le h2 (repCol_len r c x)⟩).1
theorem reps_ok (h : Full g t) (j : Nat) : LOk g ((reps t).getD j []) := reps_letter h.good j
theorem reps_len (h : Full g t) (hs : std t 0 = some t) : (reps t).length = t.length := (reps_length h.good (std_iff hs)).1
end
end Go.Proofs.Ct
namespace Go.Proofs.Ct
section
variable {g : Nat} {rels sub : List W} {t u : Tb}
theorem LOk.app {a b : W} (ha : LOk g a) (hb : LOk g b) : LOk g (a ++ b) := fun x hx => (List.mem_append.1 hx).elim (ha x) (hb x)
theorem Full.way_inv (h : Full g t) : ∀ {w : W} {x y : Nat}, LOk g w → x < t.length → Way t x w y → Way t y (Ct.inv w) x := by
  intro w
  induction w with
  | nil => intro x y _ _ h; exact Eq.symm h
  | cons l w ih =>
    rintro x y hw hx ⟨z, h1, h2⟩
    rw [inv_cons]
    refine way_app.2 ⟨z, ih hw.cons.2 (h.good.elt hx (col_ltL hw.cons.1) h1) h2, way_one.2 ?_⟩
    rw [col_inv hw.cons.1.2.2]
    exact h.good.eback hx (col_ltL hw.cons.1) h1
end
end Go.Proofs.Ct
namespace Go.Proofs.Ct
def pushL (st w : W) : W := w.foldl push st
theorem pushL_append (st a b : W) : pushL st (a ++ b) = pushL (pushL st a) b := List.foldl_append ..
theorem pushL_one (st : W) (x : Int) : pushL st [x] = push st x := rfl
theorem take_snoc0 {w : W} {k : Nat} (h : k < w.length) : w.take (k + 1) = w.take k ++ [w.getD k 0] := by
  rw [List.take_succ_eq_append_getElem h, List.getD_eq_getElem?_getD, List.getElem?_eq_getElem h]; rfl
theorem redTo_fold (w : W) : ∀ k, k ≤ w.length → redTo w k = pushL [] (w.take k)
  | 0, _ => rfl
  | k + 1, h => by
    show push (redTo w k) (w.getD k 0) = _
    rw [redTo_fold w k (by omega), take_snoc0 (by omega), pushL_append]
    rfl
theorem red_fold (w : W) : red w = pushL [] w := by
  unfold red
  rw [redTo_fold w _ (Nat.le_refl _), List.take_length]
theorem push_nil (x : Int) : push [] x = [x] := rfl
theorem push_snoc (st : W) (y x : Int) : push (st ++ [y]) x = if opp y x = true then st else st ++ [y] ++ [x] := by
  unfold push
  have h1 : (st ++ [y]).length - 1 = st.length := by simp
  rw [h1]
  have h2 : (st ++ [y]).getD st.length 0 = y := by simp [List.getD_eq_getElem?_getD]
  rw [h2]
  have h3 : (st ++ [y]).take st.length = st := by simp
  rw [h3]
  by_cases h : opp y x = true
  · rw [if_pos h, if_pos (by simp [h])]
  · rw [if_neg h, if_neg (by simp [h])]
theorem opp_iff {x y : Int} : opp x y = true ↔ x ≠ 0 ∧ y = -x := by
  unfold opp
  simp
/-- no two neighbours cancel -/
def Rd (st : W) : Prop := ∀ a x y b, st = a ++ [x] ++ [y] ++ b → opp x y = false
theorem Rd.nil : Rd [] := fun a x y b h => by simp at h
theorem Rd.one (x : Int) : Rd [x] := fun a p q b h => by
  have := congrArg List.length h
  simp at this
  omega
theorem Rd.init {st : W} {y : Int} (h : Rd (st ++ [y])) : Rd st := fun a p q b e => h a p q (b ++ [y]) (by rw [e]; simp)
theorem Rd.last {st : W} {x y : Int} (h : Rd (st ++ [x] ++ [y])) : opp x y = false := h st x y [] (by simp)
theorem Rd.snoc {st : W} {x y : Int} (h : Rd (st ++ [x])) (hn : opp x y = false) : Rd (st ++ [x] ++ [y]) := fun a p q b e => by
  rcases List.eq_nil_or_concat b with rfl | ⟨b', z, rfl⟩
  · rw [List.append_nil] at e
    have h1 := List.append_inj' e rfl
    have h2 := List.append_inj' h1.1 rfl
    have e1 := List.cons.inj h1.2
    have e2 := List.cons.inj h2.2
    rw [← e1.1, ← e2.1]
    exact hn
  · rw [List.concat_eq_append, ← List.append_assoc] at e
    have h1 := List.append_inj' e rfl
    exact h a p q b' h1.1
theorem Rd.push {st : W} (h : Rd st) (x : Int) : Rd (push st x) := by
  rcases List.eq_nil_or_concat st with rfl | ⟨s, y, rfl⟩
  · exact Rd.one x
  · rw [List.concat_eq_append] at h ⊢
    rw [push_snoc]
    split
    · exact h.init
    · rename_i hn
      exact h.snoc (by simpa using hn)
theorem Rd.pushL {st : W} (h : Rd st) : ∀ (w : W), Rd (pushL st w) := fun w => by
  induction w generalizing st with
  | nil => exact h
  | cons x w ih => exact ih (h.push x)
theorem push_back {st : W} (h : Rd st) {x : Int} (hx : x ≠ 0) : push (push st x) (-x) = st := by
  rcases List.eq_nil_or_concat st with rfl | ⟨s, y, rfl⟩
  · rw [push_nil, ← List.nil_append [x], push_snoc, if_pos (opp_iff.2 ⟨hx, rfl⟩)]
  · rw [List.concat_eq_append] at h ⊢
    rw [push_snoc]
    by_cases ho : opp y x = true
    · rw [if_pos ho]
      obtain ⟨hy, rfl⟩ := opp_iff.1 ho
      rw [Int.neg_neg]
      rcases List.eq_nil_or_concat s with rfl | ⟨s', z, rfl⟩
      · rfl
      · rw [List.concat_eq_append] at h ⊢
        rw [push_snoc, if_neg (by rw [h.last]; simp)]
    · rw [if_neg ho, push_snoc, if_pos (opp_iff.2 ⟨hx, rfl⟩)]
/-- no letter is 0 -/
def Nz (w : W) : Prop := ∀ x ∈ w, x ≠ 0
theorem Nz.app {a b : W} (ha : Nz a) (hb : Nz b) : Nz (a ++ b) := fun x hx => (List.mem_append.1 hx).elim (ha x) (hb x)
theorem Nz.left {a b : W} (h : Nz (a ++ b)) : Nz a := fun x hx => h x (List.mem_append.2 (.inl hx))
theorem Nz.right {a b : W} (h : Nz (a ++ b)) : Nz b := fun x hx => h x (List.mem_append.2 (.inr hx))
theorem Nz.red {a : W} (h : Nz a) : Nz (red a) := fun x hx => h x (red_mem hx)
theorem Nz.inv {a : W} (h : Nz a) : Nz (inv a) := fun x hx => by
  have := h _ (mem_inv hx)
  omega
theorem Nz.nil : Nz [] := fun x hx => by cases hx
theorem Nz.one {x : Int} (h : x ≠ 0) : Nz [x] := fun y hy => by
  rw [List.mem_singleton.1 hy]; exact h
theorem red_snoc (b : W) (x : Int) : red (b ++ [x]) = push (red b) x := by rw [red_fold, red_fold, pushL_append]; rfl
theorem pushL_red {st : W} (h : Rd st) : ∀ (n : Nat) (b : W), b.length = n → Nz b → pushL st (red b) = pushL st b
  | 0, b, hb, _ => by rw [List.length_eq_zero_iff.1 hb]; rfl
  | n + 1, b, hb, hz => by
    rcases List.eq_nil_or_concat b with rfl | ⟨c, x, rfl⟩
    · cases hb
    · rw [List.concat_eq_append] at hb hz ⊢
      have ih := pushL_red h n c (by simpa using hb) hz.left
      rw [red_snoc, pushL_append st c, pushL_one]
      rcases List.eq_nil_or_concat (red c) with hr | ⟨d, y, hr⟩
      · rw [hr] at ih ⊢
        rw [← ih]
        rfl
      · rw [List.concat_eq_append] at hr
        rw [hr] at ih ⊢
        rw [← ih, push_snoc]
        by_cases ho : opp y x = true
        · rw [if_pos ho]
          obtain ⟨hy, rfl⟩ := opp_iff.1 ho
          rw [pushL_append, pushL_one, push_back (h.pushL d) hy]
        · rw [if_neg ho, pushL_append]
          rfl
theorem pushL_red' {st : W} (h : Rd st) {b : W} (hz : Nz b) : pushL st (red b) = pushL st b := pushL_red h _ b rfl hz
theorem red_red {a : W} (h : Nz a) : red (red a) = red a := by rw [red_fold, pushL_red' Rd.nil h, ← red_fold]
theorem red_left {a : W} (b : W) (h : Nz a) : red (red a ++ b) = red (a ++ b) := by
  rw [red_fold, red_fold (a ++ b), pushL_append, pushL_append, pushL_red' Rd.nil h]
theorem red_right (a : W) {b : W} (h : Nz b) : red (a ++ red b) = red (a ++ b) := by
  rw [red_fold, red_fold (a ++ b), pushL_append, pushL_append, pushL_red' (Rd.nil.pushL a) h]
/-- equal in the free group -/
def Fe (a b : W) : Prop := red a = red b
theorem Fe.rfl' {a : W} : Fe a a := rfl
theorem Fe.symm {a b : W} (h : Fe a b) : Fe b a := Eq.symm h
theorem Fe.trans {a b c : W} (h : Fe a b) (k : Fe b c) : Fe a c := Eq.trans h k
theorem Fe.app {a b c d : W} (h : Fe a b) (k : Fe c d) (ha : Nz a) (hb : Nz b) (hc : Nz c) (hd : Nz d) : Fe (a ++ c) (b ++ d) := by
  show red (a ++ c) = red (b ++ d)
  rw [← red_left c ha, ← red_right _ hc, h, k, red_right _ hd, red_left d hb]
theorem fe_red {a : W} (h : Nz a) : Fe (red a) a := red_red h
theorem LOk.nz {g : Nat} {w : W} (h : LOk g w) : Nz w := fun x hx => (h x hx).2.2
theorem fe_pair {x : Int} (h : x ≠ 0) : Fe [x, -x] [] := by
  show red ([x] ++ [-x]) = []
  rw [red_snoc]
  show push (push [] x) (-x) = []
  exact push_back Rd.nil h
theorem fe_inv : ∀ {a : W}, Nz a → Fe (a ++ inv a) []
  | [], _ => rfl
  | x :: a, h => by
    have hx : x ≠ 0 := h x (by simp)
    have ha : Nz a := fun y hy => h y (by simp [hy])
    rw [inv_cons]
    have ih := fe_inv ha
    have e : x :: a ++ (inv a ++ [-x]) = [x] ++ (a ++ inv a) ++ [-x] := by simp
    rw [e]
    have h1 : Fe ([x] ++ (a ++ inv a)) [x] := Fe.app (b := [x]) (d := []) Fe.rfl' ih (Nz.one hx) (Nz.one hx) (ha.app ha.inv) Nz.nil
    have h2 := h1.app (Fe.rfl' (a := [-x])) ((Nz.one hx).app (ha.app ha.inv)) (Nz.one hx) (Nz.one (by omega)) (Nz.one (by omega))
    exact h2.trans (fe_pair hx)
theorem fe_inv' {a : W} (h : Nz a) : Fe (inv a ++ a) [] := by
  have := fe_inv h.inv
  rwa [inv_inv] at this
theorem Fe.inv {a b : W} (h : Fe a b) (ha : Nz a) (hb : Nz b) : Fe (Ct.inv a) (Ct.inv b) := by
  -- inv a = inv a b inv b = inv a a inv b = inv b
  have h1 : Fe (Ct.inv a ++ (b ++ Ct.inv b)) (Ct.inv a ++ []) := Fe.app Fe.rfl' (fe_inv hb) ha.inv ha.inv (hb.app hb.inv) Nz.nil
  rw [List.append_nil] at h1
  have h2 : Fe (Ct.inv a ++ a ++ Ct.inv b) (Ct.inv a ++ b ++ Ct.inv b) := Fe.app (Fe.app Fe.rfl' h ha.inv ha.inv ha hb) Fe.rfl' (ha.inv.app ha) (ha.inv.app hb) hb.inv hb.inv
  have h3 : Fe (Ct.inv a ++ a ++ Ct.inv b) ([] ++ Ct.inv b) := Fe.app (fe_inv' ha) Fe.rfl' (ha.inv.app ha) Nz.nil hb.inv hb.inv
  rw [List.append_assoc] at h2
  rw [List.append_assoc (Ct.inv a) b] at h2
  rw [List.append_assoc] at h3
  exact (h1.symm.trans h2.symm).trans h3
theorem mulW_fe (a b : W) (ha : Nz a) (hb : Nz b) : Fe (mulW a b) (a ++ b) := fe_red (ha.app hb)
theorem invW_fe (a : W) (ha : Nz a) : Fe (invW a) (inv a) := fe_red ha.inv
end Go.Proofs.Ct
