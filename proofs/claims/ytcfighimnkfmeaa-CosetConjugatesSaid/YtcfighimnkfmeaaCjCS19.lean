/- Orders of groups by a record of an enumeration: how a record is checked, and what it proves; How many cosets live at most, plainly; The laws' presentations: they are valid; what Enumerate answers for them; The walk of CosetHolds; Calls as operations of a drawn region; what Enumerate answers, by blocks; The memory of least: which cosets are known, their least words, the layer and the next one; Representatives lead to their cosets, plainly. -/
import Derived.Test.YtcfighimnkfmeaaCjCS18
import Derived.Test.YtcfighimnkfmeaaCjCS17
import Derived.Test.YtcfighimnkfmeaaCjCS9
import Derived.Test.YtcfighimnkfmeaaCjCS1
namespace Go.Proofs.Ct
/-- rows of numbers of ten bits -/
def gt (a k : Nat) : Nat := Nat.mod (Nat.shiftRight a (Nat.mul 10 k)) 1024
def pt (a k v : Nat) : Nat := Nat.add a (Nat.shiftLeft v (Nat.mul 10 k))
theorem gt_eq (a k : Nat) : gt a k = a / 1024 ^ k % 1024 := by
  show (a >>> (10 * k)) % 1024 = _
  rw [Nat.shiftRight_eq_div_pow, Nat.pow_mul]
theorem pt_eq (a k v : Nat) : pt a k v = a + v * 1024 ^ k := by
  show a + v <<< (10 * k) = _
  rw [Nat.shiftLeft_eq, Nat.pow_mul]
theorem gt_pt {a k v : Nat} (h0 : gt a k = 0) (hv : v < 1024) (j : Nat) : gt (pt a k v) j = if j = k then v else gt a j := by
  rw [gt_eq] at h0
  rw [gt_eq, pt_eq, gt_eq]
  have hk : 0 < 1024 ^ k := Nat.pow_pos (by omega)
  rcases Nat.lt_trichotomy j k with h | h | h
  · rw [if_neg (by omega)]
    obtain ⟨d, rfl⟩ := Nat.exists_eq_add_of_lt h
    have hj : 0 < 1024 ^ j := Nat.pow_pos (by omega)
    have e : v * 1024 ^ (j + d + 1) = (v * 1024 ^ d * 1024) * 1024 ^ j := by
      rw [Nat.pow_succ, Nat.pow_add]
      simp only [Nat.mul_comm, Nat.mul_left_comm]
    rw [e, Nat.add_mul_div_right _ _ hj, Nat.add_mul_mod_self_right]
  · subst h
    rw [if_pos rfl, Nat.add_mul_div_right _ _ hk, Nat.add_mod, h0, Nat.zero_add, Nat.mod_mod, Nat.mod_eq_of_lt hv]
  · rw [if_neg (by omega)]
    obtain ⟨d, rfl⟩ := Nat.exists_eq_add_of_lt h
    have e : 1024 ^ (k + d + 1) = 1024 ^ k * (1024 * 1024 ^ d) := by
      rw [Nat.pow_succ, Nat.pow_add, Nat.mul_assoc, Nat.mul_comm (1024 ^ d)]
    have h1 : (a + v * 1024 ^ k) / 1024 ^ k = a / 1024 ^ k + v := Nat.add_mul_div_right _ _ hk
    have h2 : (a / 1024 ^ k + v) / 1024 = a / 1024 ^ k / 1024 := by omega
    rw [e, ← Nat.div_div_eq_div_mul, ← Nat.div_div_eq_div_mul, ← Nat.div_div_eq_div_mul, ← Nat.div_div_eq_div_mul, h1, h2]
theorem nbeq (a b : Nat) : (Nat.beq a b = true) = (a = b) := propext ⟨Nat.eq_of_beq_eq_true, fun h => by rw [h]; exact Nat.beq_refl b⟩
/-- the record's state: how many names, the edges, the names that are other names -/
structure Cs where
  n : Nat
  E : Nat
  A : Nat
def rpC (A : Nat) : Nat → Nat → Nat
  | 0, x => x
  | k + 1, x => match gt A x with
    | 0 => x
    | y + 1 => rpC A k y
def lkC (s : Cs) (x c : Nat) : Nat := match gt s.E (Nat.add (Nat.mul 8 x) c) with
  | 0 => 0
  | y + 1 => Nat.succ (rpC s.A 20 y)
def wkC (s : Cs) : List Nat → Nat → Nat
  | [], x => Nat.succ x
  | c :: w, x => match lkC s x c with
    | 0 => 0
    | y + 1 => wkC s w y
def alC (s : Cs) (a b : Nat) : Cs := cond (Nat.beq (gt s.A b) 0 && Nat.blt a s.n && Nat.blt b s.n) ⟨s.n, s.E, pt s.A b (Nat.succ a)⟩ s
def algC (s : Cs) (a b : Nat) : Cs := cond (Nat.beq a b) s (cond (Nat.blt a b) (alC s a b) (alC s b a))
def haC (s : Cs) (u c v : Nat) : Cs := match lkC s u c with
  | y + 1 => algC s y v
  | 0 => ⟨s.n, pt s.E (Nat.add (Nat.mul 8 u) c) (Nat.succ v), s.A⟩
def lnC (s : Cs) (u c v : Nat) : Cs := haC (haC s u c v) v (flp c) u
def dfC (m : Nat) (s : Cs) (r c : Nat) : Cs := match lkC s r c with
  | 0 => cond (Nat.blt r s.n && Nat.blt c m && Nat.blt s.n 1000) (lnC ⟨Nat.succ s.n, s.E, s.A⟩ r c s.n) s
  | _ + 1 => s
def bkC (w : List Nat) : List Nat := (w.map flp).reverse
def reC (rs : List (List Nat)) (s : Cs) (r k i : Nat) : Cs := cond (Nat.blt r s.n && Nat.blt k rs.length && Nat.blt i (rs.getD k []).length)
  (match wkC s ((rs.getD k []).take i) r with
  | 0 => s
  | u + 1 => match wkC s (bkC ((rs.getD k []).drop (i + 1))) r with
    | 0 => s
    | v + 1 => lnC s u ((rs.getD k []).getD i 0) v) s
def cpC (s : Cs) (x c : Nat) : Cs := match gt s.E (Nat.add (Nat.mul 8 x) c) with
  | 0 => s
  | d + 1 => cond (Nat.blt c 8) (lnC s (rpC s.A 20 x) c (rpC s.A 20 d)) s
def stC (m : Nat) (rs : List (List Nat)) (i : Nat) (s : Cs) : Cs := match Nat.mod i 4 with
  | 0 => dfC m s (Nat.div i 32) (Nat.mod (Nat.div i 4) 8)
  | 1 => reC rs s (Nat.div i 1024) (Nat.mod (Nat.div i 128) 8) (Nat.mod (Nat.div i 4) 32)
  | _ => cpC s (Nat.div i 32) (Nat.mod (Nat.div i 4) 8)
def runC (m : Nat) (rs : List (List Nat)) : Nat → Nat → Cs → Cs
  | 0, _, s => s
  | k + 1, log, s => runC m rs k (Nat.shiftRight log 20) (stC m rs (Nat.mod log 1048576) s)
/-- what holds of a record's state -/
structure OkC (g : Nat) {α : Type} (D : α → Prop) (act : α → Nat → α) (p0 : α) (s : Cs) (f : Nat → α) : Prop where
  n1 : 1 ≤ s.n
  n2 : s.n ≤ 1000
  f0 : f 0 = p0
  dom : ∀ x, x < s.n → D (f x)
  e : ∀ x c y, c < 8 → gt s.E (8 * x + c) = y + 1 → x < s.n ∧ y < s.n ∧ c < 2 * g ∧ act (f x) c = f y
  a : ∀ x y, gt s.A x = y + 1 → x < s.n ∧ y < s.n ∧ f x = f y
section
variable {g : Nat} {rels : List W} {α : Type} {D : α → Prop} {act : α → Nat → α} {p0 : α} {s : Cs} {f : Nat → α}
theorem OkC.rp (h : OkC g D act p0 s f) : ∀ (k : Nat) {x : Nat}, x < s.n → rpC s.A k x < s.n ∧ f (rpC s.A k x) = f x
  | 0, x, hx => ⟨hx, rfl⟩
  | k + 1, x, hx => by
    rw [rpC]
    cases hg : gt s.A x with
    | zero => exact ⟨hx, rfl⟩
    | succ y =>
      obtain ⟨h1, h2, h3⟩ := h.a x y hg
      obtain ⟨h4, h5⟩ := h.rp k h2
      exact ⟨h4, h5.trans h3.symm⟩
theorem OkC.lk (h : OkC g D act p0 s f) {x c y : Nat} (hc : c < 8) (e : lkC s x c = y + 1) : x < s.n ∧ y < s.n ∧ c < 2 * g ∧ act (f x) c = f y := by
  unfold lkC at e
  cases hg : gt s.E (Nat.add (Nat.mul 8 x) c) with
  | zero => rw [hg] at e; cases e
  | succ z =>
    rw [hg] at e
    obtain ⟨h1, h2, h3, h4⟩ := h.e x c z hc hg
    obtain ⟨h5, h6⟩ := h.rp 20 h2
    have e' : rpC s.A 20 z = y := Nat.succ.inj e
    rw [e'] at h5 h6
    exact ⟨h1, h5, h3, by rw [h4, h6]⟩
theorem lkC_zero {x c : Nat} (e : lkC s x c = 0) : gt s.E (8 * x + c) = 0 := by
  unfold lkC at e
  show gt s.E (Nat.add (Nat.mul 8 x) c) = 0
  cases hg : gt s.E (Nat.add (Nat.mul 8 x) c) with
  | zero => rfl
  | succ z => rw [hg] at e; cases e
theorem OkC.al (h : OkC g D act p0 s f) {a b : Nat} (e : f a = f b) : OkC g D act p0 (alC s a b) f := by
  unfold alC
  cases hc : (Nat.beq (gt s.A b) 0 && Nat.blt a s.n && Nat.blt b s.n) with
  | false => exact h
  | true =>
    simp only [Bool.and_eq_true, nbeq, Nat.blt_eq] at hc
    have hn := h.n2
    refine ⟨h.n1, h.n2, h.f0, h.dom, h.e, fun x y hx => ?_⟩
    show x < s.n ∧ y < s.n ∧ f x = f y
    have hx' : gt (pt s.A b (a + 1)) x = y + 1 := hx
    rw [gt_pt hc.1.1 (by omega)] at hx'
    split at hx'
    · rename_i e1
      have : a = y := by omega
      rw [e1, ← this]
      exact ⟨hc.2, hc.1.2, e.symm⟩
    · exact h.a x y hx'
theorem OkC.alg (h : OkC g D act p0 s f) {a b : Nat} (e : f a = f b) : OkC g D act p0 (algC s a b) f := by
  unfold algC
  cases Nat.beq a b with
  | true => exact h
  | false =>
    cases Nat.blt a b with
    | true => exact h.al e
    | false => exact h.al e.symm
theorem flp8 {c : Nat} (h : c < 8) : flp c < 8 := flp_lt2 (g := 4) h
theorem key_inj {x c y d : Nat} (hc : c < 8) (hd : d < 8) (e : 8 * x + c = 8 * y + d) : x = y ∧ c = d := by omega
theorem OkC.put (h : OkC g D act p0 s f) {u v c : Nat} (hu : u < s.n) (hv : v < s.n) (hc : c < 2 * g) (hc8 : c < 8) (e : act (f u) c = f v) (h1 : gt s.E (8 * u + c) = 0) :
    OkC g D act p0 ⟨s.n, pt s.E (8 * u + c) (v + 1), s.A⟩ f := by
  have hn := h.n2
  have e1 := gt_pt h1 (show v + 1 < 1024 by omega)
  refine ⟨h.n1, h.n2, h.f0, h.dom, fun x k y hk hx => ?_, h.a⟩
  have hx' : gt (pt s.E (8 * u + c) (v + 1)) (8 * x + k) = y + 1 := hx
  rw [e1] at hx'
  show x < s.n ∧ y < s.n ∧ k < 2 * g ∧ act (f x) k = f y
  split at hx'
  · rename_i e2
    obtain ⟨rfl, rfl⟩ := key_inj hk hc8 e2
    have : y = v := by omega
    rw [this]
    exact ⟨hu, hv, hc, e⟩
  · exact h.e x k y hk hx'
theorem n_al (s : Cs) (a b : Nat) : (alC s a b).n = s.n := by unfold alC; cases (Nat.beq (gt s.A b) 0 && Nat.blt a s.n && Nat.blt b s.n) <;> rfl
theorem n_alg (s : Cs) (a b : Nat) : (algC s a b).n = s.n := by
  unfold algC
  cases Nat.beq a b with
  | true => rfl
  | false =>
    cases Nat.blt a b with
    | true => exact n_al s a b
    | false => exact n_al s b a
theorem n_ha (s : Cs) (u c v : Nat) : (haC s u c v).n = s.n := by
  unfold haC
  cases lkC s u c with
  | zero => rfl
  | succ y => exact n_alg s y v
theorem OkC.ha (h : OkC g D act p0 s f) {u v c : Nat} (hu : u < s.n) (hv : v < s.n) (hc : c < 2 * g) (hc8 : c < 8) (e : act (f u) c = f v) : OkC g D act p0 (haC s u c v) f := by
  unfold haC
  cases h1 : lkC s u c with
  | succ y =>
    obtain ⟨-, -, -, h2⟩ := h.lk hc8 h1
    exact h.alg (by rw [← h2, e])
  | zero => exact h.put hu hv hc hc8 e (lkC_zero h1)
theorem OkC.ln (h : OkC g D act p0 s f) (hM : Mdl g rels D act) {u v c : Nat} (hu : u < s.n) (hv : v < s.n) (hc : c < 2 * g) (hc8 : c < 8) (e : act (f u) c = f v) : OkC g D act p0 (lnC s u c v) f := by
  have h1 := h.ha hu hv hc hc8 e
  have hn := n_ha s u c v
  exact h1.ha (by rw [hn]; exact hv) (by rw [hn]; exact hu) (flp_lt2 hc) (flp8 hc8) (by rw [← e]; exact hM.inv _ _ (h.dom u hu) hc)
theorem OkC.df (h : OkC g D act p0 s f) (hM : Mdl g rels D act) (hg : 2 * g ≤ 8) (r c : Nat) : ∃ f', OkC g D act p0 (dfC (2 * g) s r c) f' := by
  unfold dfC
  cases h1 : lkC s r c with
  | succ y => exact ⟨f, h⟩
  | zero =>
    simp only
    cases hc : (Nat.blt r s.n && Nat.blt c (2 * g) && Nat.blt s.n 1000) with
    | false => exact ⟨f, h⟩
    | true =>
      simp only [Bool.and_eq_true, Nat.blt_eq] at hc
      obtain ⟨⟨h2, h3⟩, h4⟩ := hc
      have hn1 := h.n1
      refine ⟨fun x => if x = s.n then act (f r) c else f x, ?_⟩
      have h5 : OkC g D act p0 ⟨s.n + 1, s.E, s.A⟩ (fun x => if x = s.n then act (f r) c else f x) := by
        refine ⟨by show 1 ≤ s.n + 1; omega, by show s.n + 1 ≤ 1000; omega, by rw [if_neg (by omega)]; exact h.f0, fun x hx => ?_, fun x k y hk hx => ?_, fun x y hx => ?_⟩
        · have hx' : x < s.n + 1 := hx
          split
          · exact hM.cl _ _ (h.dom r h2) h3
          · exact h.dom x (by omega)
        · obtain ⟨a, b, c', d⟩ := h.e x k y hk hx
          rw [if_neg (by omega), if_neg (by omega)]
          exact ⟨Nat.lt_succ_of_lt a, Nat.lt_succ_of_lt b, c', d⟩
        · obtain ⟨a, b, c'⟩ := h.a x y hx
          rw [if_neg (by omega), if_neg (by omega)]
          exact ⟨Nat.lt_succ_of_lt a, Nat.lt_succ_of_lt b, c'⟩
      exact h5.ln hM (u := r) (v := s.n) (c := c) (by show r < s.n + 1; omega) (by show s.n < s.n + 1; omega) h3 (by omega) (by rw [if_neg (by omega), if_pos rfl])
theorem actW_cols (w : W) : ∀ p : α, actW act p w = (w.map col).foldl act p := by
  induction w with
  | nil => intro p; rfl
  | cons l w ih => intro p; exact ih _
theorem OkC.wk (h : OkC g D act p0 s f) (hg : 2 * g ≤ 8) : ∀ {w : List Nat} {x y : Nat}, (∀ c ∈ w, c < 2 * g) → x < s.n → wkC s w x = y + 1 → y < s.n ∧ w.foldl act (f x) = f y := by
  intro w
  induction w with
  | nil =>
    intro x y _ hx e
    have e' : x = y := Nat.succ.inj e
    rw [← e']; exact ⟨hx, rfl⟩
  | cons c w ih =>
    intro x y hw hx e
    rw [wkC] at e
    have hc := hw c (List.mem_cons_self ..)
    cases h1 : lkC s x c with
    | zero => rw [h1] at e; cases e
    | succ z =>
      rw [h1] at e
      obtain ⟨-, h2, -, h3⟩ := h.lk (by omega) h1
      rw [List.foldl_cons, h3]
      exact ih (fun c hc => hw c (List.mem_cons_of_mem _ hc)) h2 e
theorem fold_bk (hM : Mdl g rels D act) : ∀ {w : List Nat} {p : α}, (∀ c ∈ w, c < 2 * g) → D p → (bkC w).foldl act (w.foldl act p) = p := by
  intro w
  induction w with
  | nil => intro p _ _; rfl
  | cons c w ih =>
    intro p hw hp
    have hc := hw c (List.mem_cons_self ..)
    have e : bkC (c :: w) = bkC w ++ [flp c] := by simp [bkC]
    rw [e, List.foldl_append, List.foldl_cons (l := w), List.foldl_cons, ih (fun c hc => hw c (List.mem_cons_of_mem _ hc)) (hM.cl _ _ hp hc)]
    exact hM.inv _ _ hp hc
theorem mem_bk {w : List Nat} (h : ∀ c ∈ w, c < 2 * g) : ∀ c ∈ bkC w, c < 2 * g := fun c hc => by
  unfold bkC at hc
  obtain ⟨d, hd, rfl⟩ := List.mem_map.1 (List.mem_reverse.1 hc)
  exact flp_lt2 (h d hd)
theorem OkC.re (h : OkC g D act p0 s f) (hM : Mdl g rels D act) (hg : 2 * g ≤ 8) {rs : List (List Nat)} (hrs : rs = rels.map fun w => w.map col) (hr : ∀ j, j < rels.length → LOk g (rels.getD j [])) (r k i : Nat) : OkC g D act p0 (reC rs s r k i) f := by
  unfold reC
  cases hc : (Nat.blt r s.n && Nat.blt k rs.length && Nat.blt i (rs.getD k []).length) with
  | false => exact h
  | true =>
    simp only [Bool.and_eq_true, Nat.blt_eq] at hc
    obtain ⟨⟨h1, h2⟩, h3⟩ := hc
    simp only [cond_true]
    have hk : k < rels.length := by rw [hrs, List.length_map] at h2; exact h2
    have hw : rs.getD k [] = (rels.getD k []).map col := by rw [hrs]; simp [List.getD_eq_getElem?_getD, hk]
    have hall : ∀ c ∈ rs.getD k [], c < 2 * g := fun c hc => by
      rw [hw] at hc
      obtain ⟨l, hl, rfl⟩ := List.mem_map.1 hc
      exact col_ltL (hr k hk l hl)
    have hcl : (rs.getD k []).foldl act (f r) = f r := by
      rw [hw, ← actW_cols]
      exact hM.rel _ k (h.dom r h1) hk
    generalize rs.getD k [] = w at *
    cases h4 : wkC s (w.take i) r with
    | zero => exact h
    | succ u =>
      simp only
      cases h5 : wkC s (bkC (w.drop (i + 1))) r with
      | zero => exact h
      | succ v =>
        simp only
        have hd : ∀ c ∈ w.drop (i + 1), c < 2 * g := fun c hc => hall c (List.mem_of_mem_drop hc)
        obtain ⟨h6, h7⟩ := h.wk hg (fun c hc => hall c (List.mem_of_mem_take hc)) h1 h4
        obtain ⟨h8, h9⟩ := h.wk hg (mem_bk hd) h1 h5
        have hci : w.getD i 0 < 2 * g := by
          rw [List.getD_eq_getElem?_getD, List.getElem?_eq_getElem h3]
          exact hall _ (List.getElem_mem h3)
        refine h.ln hM h6 h8 hci (by omega) ?_
        have e : w = w.take i ++ w.getD i 0 :: w.drop (i + 1) := by
          rw [List.getD_eq_getElem?_getD, List.getElem?_eq_getElem h3]
          simp
        rw [e, List.foldl_append, List.foldl_cons, h7] at hcl
        have hD1 : D (act (f u) (w.getD i 0)) := hM.cl _ _ (h.dom u h6) hci
        rw [← fold_bk hM hd hD1, hcl, h9]
theorem OkC.cp (h : OkC g D act p0 s f) (hM : Mdl g rels D act) (x c : Nat) : OkC g D act p0 (cpC s x c) f := by
  unfold cpC
  cases h1 : gt s.E (Nat.add (Nat.mul 8 x) c) with
  | zero => exact h
  | succ d =>
    simp only
    cases h2 : Nat.blt c 8 with
    | false => exact h
    | true =>
      rw [Nat.blt_eq] at h2
      obtain ⟨h3, h4, h5, h6⟩ := h.e x c d h2 h1
      obtain ⟨h7, h8⟩ := h.rp 20 h3
      obtain ⟨h9, h10⟩ := h.rp 20 h4
      exact h.ln hM h7 h9 h5 h2 (by rw [h8, h10]; exact h6)
theorem OkC.run (hM : Mdl g rels D act) (hg : 2 * g ≤ 8) {rs : List (List Nat)} (hrs : rs = rels.map fun w => w.map col) (hr : ∀ j, j < rels.length → LOk g (rels.getD j [])) : ∀ (k log : Nat) {s : Cs} {f : Nat → α}, OkC g D act p0 s f → ∃ f', OkC g D act p0 (runC (2 * g) rs k log s) f'
  | 0, _, _, f, h => ⟨f, h⟩
  | k + 1, log, s, f, h => by
    rw [runC]
    have h1 : ∃ f', OkC g D act p0 (stC (2 * g) rs (Nat.mod log 1048576) s) f' := by
      unfold stC
      split
      · exact h.df hM hg _ _
      · exact ⟨f, h.re hM hg hrs hr _ _ _⟩
      · exact ⟨f, h.cp hM _ _⟩
    obtain ⟨f1, h2⟩ := h1
    exact OkC.run hM hg hrs hr k _ h2
end
end Go.Proofs.Ct
namespace Go.Proofs.Ct
def MI (s : St) : Prop := s.live ≤ s.most ∧ s.most ≤ s.t.length
section
variable {g lim : Nat} {s s1 : St} {rels sub : List W}
theorem live_le (h : Rest g s) (h1 : Rest g s1) (he : Ext g s s1) (hn : s1.t.length = s.t.length) : s1.live ≤ s.live := by
  have a := h.lv
  have b := h1.lv
  have hd : dc s ≤ dc s1 := by
    unfold dc
    rw [hn]
    refine List.countP_mono_left fun x hx hp => ?_
    have hx' : x < s.t.length := by simpa using hx
    have h2 : s.rp x ≠ x := by simpa using hp
    have h3 := h.inv.rle x hx'
    have h4 := he.coarse x hx'
    have h5 := h1.inv.rle (s.rp x) (by rw [hn]; exact h.inv.rlt hx')
    have : s1.rp x ≠ x := by omega
    simpa using this
  omega
theorem MI.ext (hm : MI s) (h : Rest g s) (h1 : Rest g s1) (he : Ext g s s1) (hn : s1.t.length = s.t.length) (hmo : s1.most = s.most) : MI s1 := by
  have := live_le h h1 he hn
  unfold MI at hm ⊢
  omega
theorem MI.defn (hm : MI s) (h : Rest g s) (r c : Nat) : MI (defS (2 * g) s r c) := by
  have hl := length_def (s := s) (2 * g) r c
  have h1 : (defS (2 * g) s r c).live = s.live + 1 := rfl
  have h2 : (defS (2 * g) s r c).most = max s.most (s.live + 1) := rfl
  have := h.lv
  unfold MI at hm ⊢
  omega
theorem fillF_mi : ∀ (fuel : Nat) {s : St}, Good g lim s → MI s → ∀ {r : Nat}, r < s.t.length → s.rp r = r → ∀ {w : W}, LOk g w → ∀ s', fillF (2 * g) lim fuel s r w = some s' → MI s'
  | 0, _, _, _, _, _, _, _, _, s', e => by cases e
  | fuel + 1, s, h, hm, r, hr, hl, w, hw, s', e => by
    obtain ⟨a, b⟩ := scan_rest h.rest hr hl hw
    unfold fillF at e
    cases hsc : scanS (2 * g) s r w with
    | mk s2 o =>
      rw [hsc] at e
      cases o with
      | none =>
        simp only at e
        cases e
        obtain ⟨h1, h2, h3, h4⟩ := a s' hsc
        exact hm.ext h.rest h1 h2 h3 h4
      | some fc =>
        obtain ⟨f, c⟩ := fc
        simp only at e
        obtain ⟨-, h2, h3, h4, h5⟩ := b _ _ _ hsc
        split at e
        · cases e
        · rename_i hne
          obtain ⟨k1, k2⟩ := h.defn h2 h3 h4 h5 (by have := h.n2; omega)
          have hn := length_def (s := s) (2 * g) f c
          exact fillF_mi fuel k1 (hm.defn h.rest f c) (r := r) (by omega) (by rw [rp_def_old h.rest.inv _ _ _ hr]; exact hl) hw s' e
theorem run_mi (hg : 1 ≤ lim) (hr : ∀ j, j < rels.length → LOk g (rels.getD j [])) (hs : ∀ j, j < sub.length → LOk g (sub.getD j [])) {s' : St} (e : runS (2 * g) lim rels sub = some s') : MI s' := by
  unfold runS at e
  cases hx : optTo (subS (2 * g) lim sub) sub.length (startS (2 * g)) with
  | none => rw [hx] at e; cases e
  | some x =>
    rw [hx] at e
    have hst : (startS (2 * g)).t.length = 1 := by unfold startS; rw [length_add]; rfl
    have h0 : MI (startS (2 * g)) := by
      have h1 : (startS (2 * g)).live = 1 := rfl
      have h2 : (startS (2 * g)).most = 1 := rfl
      unfold MI
      omega
    obtain ⟨hG, hm⟩ := optTo_inv (p := fun _ s => Good g lim s ∧ MI s) ⟨start_good hg, h0⟩ sub.length (fun i x y hi ⟨hx, hm⟩ hy => by
      have hl := rp_zero hx.rest hx.n1
      exact ⟨(fill_good hx hx.n1 hl (getD_all hs LOk.nil i) hy).1, fillF_mi _ hx hm hx.n1 hl (getD_all hs LOk.nil i) _ hy⟩) x hx
    exact (optTo_inv (p := fun _ s => Good g lim s ∧ MI s) ⟨hG, hm⟩ lim (fun r x y _ ⟨hx, hm⟩ hy => by
      unfold rowsS at hy
      split at hy
      · rename_i hlt
        unfold rowS at hy
        cases hz : optTo (relS (2 * g) lim rels r) rels.length x with
        | none => rw [hz] at hy; cases hy
        | some z =>
          rw [hz] at hy
          obtain ⟨⟨hzG, hzE⟩, hzm⟩ := optTo_inv (p := fun _ y => (Good g lim y ∧ Ext g x y) ∧ MI y) ⟨⟨hx, Ext.refl hx.rest⟩, hm⟩ rels.length (fun i y v hi ⟨⟨hy1, hy2⟩, hm⟩ hv => by
            have hry : r < y.t.length := Nat.lt_of_lt_of_le hlt hy2.n
            unfold relS at hv
            split at hv
            · rename_i hl
              obtain ⟨a, b⟩ := fill_good hy1 hry hl (getD_all hr LOk.nil i) hv
              exact ⟨⟨a, hy2.trans hx.rest hy1.rest b⟩, fillF_mi _ hy1 hm hry hl (getD_all hr LOk.nil i) _ hv⟩
            · cases hv
              exact ⟨⟨hy1, hy2⟩, hm⟩) z hz
          obtain ⟨⟨hyG, hyE⟩, hym⟩ := optTo_inv (p := fun _ y => (Good g lim y ∧ Ext g z y) ∧ MI y) ⟨⟨hzG, Ext.refl hzG.rest⟩, hzm⟩ (2 * g) (fun c y v hc ⟨⟨hy1, hy2⟩, hm⟩ hv => by
            have hry : r < y.t.length := Nat.lt_of_lt_of_le hlt (Nat.le_trans hzE.n hy2.n)
            unfold colS at hv
            split at hv
            · rename_i hl
              split at hv
              · cases hv
              · rename_i hne
                cases hv
                obtain ⟨a, b⟩ := hy1.defn hry hc hl.1 hl.2 (by have := hy1.n2; omega)
                exact ⟨⟨a, hy2.trans hzG.rest hy1.rest b⟩, hm.defn hy1.rest r c⟩
            · cases hv
              exact ⟨⟨hy1, hy2⟩, hm⟩) y hy
          exact ⟨hyG, hym⟩
      · cases hy
        exact ⟨hx, hm⟩) s' e).2
theorem livTo_dc (s : St) : ∀ n, (livTo s n).length + (List.range n).countP (fun x => decide (s.rp x ≠ x)) = n
  | 0 => rfl
  | n + 1 => by
    have ih := livTo_dc s n
    rw [livTo_succ, List.range_succ, List.countP_append]
    by_cases h : s.rp n = n
    · rw [if_pos h]; simp [h]; simp at ih; omega
    · rw [if_neg h]; simp [h]; simp at ih; omega
theorem liv_live (h : Rest g s) : ((liv s).length : Int) = s.live := by
  have h1 := h.lv
  have h2 := livTo_dc s s.t.length
  have h3 : (liv s).length + dc s = s.t.length := h2
  omega
end
end Go.Proofs.Ct
namespace Go.Proofs
open Go.RowKit Go.Shelf Go.Proofs.Ct Go.Maps
theorem letBad_ok {g : Nat} {w : W} (h : LOk g w) : w.any (letBad g) = false := by
  rw [List.any_eq_false]
  intro x hx
  have := h x hx
  unfold letBad
  simp
  omega
theorem sumTo_short {l : List W} {m : Nat} (h : ∀ j, (l.getD j []).length ≤ m) : ∀ k, sumTo l k ≤ k * m
  | 0 => by simp [sumTo, foldTo]
  | k + 1 => by
    have := sumTo_short h k
    have := h k
    show sumTo l k + (l.getD k []).length ≤ (k + 1) * m
    rw [Nat.add_mul]
    omega
/-- words in g generators, few and short -/
structure Wds (g : Nat) (l : List W) (n m : Nat) : Prop where
  len : l.length ≤ n
  short : ∀ j, (l.getD j []).length ≤ m
  ok : ∀ j, j < l.length → LOk g (l.getD j [])
theorem Wds.pres {g n m : Nat} {l : List W} (h : Wds g l n m) (hg : 1 ≤ g ∧ g ≤ 16) (hn : n ≤ 100) (hnm : n * m ≤ 4000) : presE g l = 0 := by
  refine presE_none hg (Nat.le_trans h.len hn) fun j hj => ?_
  unfold presBad
  have h1 := sumTo_short h.short (j + 1)
  have h2 : (j + 1) * m ≤ n * m := Nat.mul_le_mul_right _ (by have := h.len; omega)
  rw [if_neg (by omega), if_neg (by rw [letBad_ok (h.ok j hj)]; simp)]
theorem Wds.good {g n m : Nat} {l : List W} (h : Wds g l n m) (hn : n ≤ 100) (hnm : n * m ≤ 4000) {lim : Nat} (hl : 1 ≤ lim ∧ lim ≤ 20000) : badArgs g l (lim : Int) = false := by
  have h1 := sumTo_short h.short l.length
  have h2 : l.length * m ≤ n * m := Nat.mul_le_mul_right _ h.len
  have h3 := h.len
  have h4 : (l.any fun w => w.any (letBad g)) = false := by
    rw [List.any_eq_false]
    intro w hw
    obtain ⟨j, hj, rfl⟩ := List.mem_iff_getElem.1 hw
    have := h.ok j hj
    rw [List.getD_eq_getElem?_getD, List.getElem?_eq_getElem hj] at this
    have h5 := letBad_ok this
    simp only [Option.getD_some] at h5
    rw [h5]; simp
  unfold badArgs
  rw [h4]
  simp only [Bool.or_false, Bool.or_eq_false_iff, decide_eq_false_iff_not]
  omega
theorem mem_wordsTo {g most : Nat} (hg : 1 ≤ g) : ∀ (f : Nat) (l : List Int), ∀ w ∈ wordsTo g most f l, w.length ≤ most ∧ LOk g w
  | 0, _, w, h => by simp [wordsTo] at h
  | _ + 1, [], w, h => by simp [wordsTo] at h
  | f + 1, x :: l, w, h => by
    rw [wordsTo] at h
    rcases List.mem_cons.1 h with rfl | h
    · refine ⟨?_, fun y hy => ?_⟩
      · rw [length_wordOf, List.length_take]
        have := Int.emod_lt_of_pos x (show (0 : Int) < ((most + 1 : Nat) : Int) by omega)
        have := Int.emod_nonneg x (show ((most + 1 : Nat) : Int) ≠ 0 by omega)
        omega
      · unfold wordOf at hy
        obtain ⟨z, -, rfl⟩ := List.mem_map.1 hy
        have h1 := Int.emod_lt_of_pos z (show (0 : Int) < ((2 * g : Nat) : Int) by omega)
        have h2 := Int.emod_nonneg z (show ((2 * g : Nat) : Int) ≠ 0 by omega)
        exact letter_range (by omega)
    · exact mem_wordsTo hg f _ w h
theorem wds_of_mem {g n m : Nat} {l : List W} (hn : l.length ≤ n) (h : ∀ w ∈ l, w.length ≤ m ∧ LOk g w) : Wds g l n m := by
  refine ⟨hn, fun j => ?_, fun j hj => ?_⟩
  · rw [List.getD_eq_getElem?_getD]
    rcases Nat.lt_or_ge j l.length with hj | hj
    · rw [List.getElem?_eq_getElem hj]; exact (h _ (List.getElem_mem hj)).1
    · rw [List.getElem?_eq_none hj]; exact Nat.zero_le _
  · rw [List.getD_eq_getElem?_getD, List.getElem?_eq_getElem hj]
    exact (h _ (List.getElem_mem hj)).2
theorem wds_law {g : Nat} (hg : 1 ≤ g) (m : Nat) (l : List Int) : Wds g (lawWords g m l) m 12 := wds_of_mem (by unfold lawWords; rw [List.length_take]; omega) fun w hw => mem_wordsTo hg _ _ w (List.mem_of_mem_take hw)
/-- the known presentations -/
def knownB (i : Nat) : Bool := decide (1 ≤ (knownT i).1 ∧ (knownT i).1 ≤ 3) && decide ((knownT i).2.1.length ≤ 6) && ((knownT i).2.1.all fun w => decide (w.length ≤ 60) && w.all fun x => decide (-(knownT i).1 ≤ x) && decide (x ≤ (knownT i).1) && decide (x ≠ 0))
theorem known_wds {i : Nat} (h : knownB i = true) : ∃ g : Nat, (knownT i).1 = (g : Int) ∧ 1 ≤ g ∧ g ≤ 3 ∧ Wds g (knownT i).2.1 6 60 := by
  unfold knownB at h
  simp only [Bool.and_eq_true, decide_eq_true_eq] at h
  obtain ⟨⟨⟨h1, h2⟩, h3⟩, h4⟩ := h
  refine ⟨(knownT i).1.toNat, by omega, by omega, by omega, wds_of_mem h3 fun w hw => ?_⟩
  have h5 := List.all_eq_true.1 h4 w hw
  simp only [Bool.and_eq_true, decide_eq_true_eq] at h5
  refine ⟨h5.1, fun x hx => ?_⟩
  have h6 := List.all_eq_true.1 h5.2 x hx
  simp only [Bool.and_eq_true, decide_eq_true_eq] at h6
  omega
theorem known_all : ∀ i, i < 14 → knownB i = true := by decide +kernel
theorem mod14 (x : Int) : (x % 14).toNat < 14 := by
  have h1 := Int.emod_nonneg x (show (14 : Int) ≠ 0 by omega)
  have h2 := Int.emod_lt_of_pos x (show (0 : Int) < 14 by omega)
  omega
theorem given_wds (m : Nat) (hm : m ≤ 6) (which : Int) (l : List Int) : ∃ g : Nat, (givenP m which l).1 = (g : Int) ∧ 1 ≤ g ∧ g ≤ 3 ∧ Wds g (givenP m which l).2 6 60 := by
  unfold givenP
  split
  · exact known_wds (known_all _ (mod14 _))
  · have h1 := Int.emod_nonneg (which.tdiv 2) (show (3 : Int) ≠ 0 by omega)
    have h2 := Int.emod_lt_of_pos (which.tdiv 2) (show (0 : Int) < 3 by omega)
    refine ⟨(1 + which.tdiv 2 % 3).toNat, by show (1 + which.tdiv 2 % 3) = _; omega, by omega, by omega, ?_⟩
    have := wds_law (g := (1 + which.tdiv 2 % 3).toNat) (by omega) m l
    exact ⟨Nat.le_trans this.len hm, fun j => Nat.le_trans (this.short j) (by omega), this.ok⟩
section
variable {g n m n' m' lim : Nat} {rels sub : List W}
/-- what Enumerate answers: no room, or a coset table that any greater limit gives as well -/
structure EnumT (g : Nat) (rels sub : List W) (lim : Nat) (t : Tb) (d k : Nat) : Prop where
  coset : Coset g rels sub t
  n1 : 1 ≤ t.length
  live : t.length ≤ k
  most : k ≤ d
  room : d ≤ lim
  is : ∀ lim', d ≤ lim' → lim' ≤ 20000 → enumE g rels sub (lim' : Int) = (t, ((d : Int), (k : Int)), 0)
  less : ∀ lim', 1 ≤ lim' → lim' < d → enumE g rels sub (lim' : Int) = ([], (0, 0), 12)
theorem enum_cases (hg : 1 ≤ g ∧ g ≤ 16) (hp : presE g rels = 0) (hr : ∀ j, j < rels.length → LOk g (rels.getD j [])) (hs : ∀ j, j < sub.length → LOk g (sub.getD j [])) (hb : ∀ lim' : Nat, 1 ≤ lim' → lim' ≤ 20000 → badArgs g sub (lim' : Int) = false) (hl : 1 ≤ lim ∧ lim ≤ 20000) :
    enumE g rels sub (lim : Int) = ([], (0, 0), 12) ∨ ∃ t d k, EnumT g rels sub lim t d k := by
  cases hx : runS (2 * g) lim rels sub with
  | none => exact .inl (enumE_full hp (hb lim hl.1 hl.2) hx)
  | some s =>
    right
    obtain ⟨hG, -⟩ := run_good hl.1 hr hs hx
    obtain ⟨h1, h2, h3⟩ := coset_of_run hg.1 hg.2 hl.2 hl.1 hr hs hx
    obtain ⟨m1, m2⟩ := run_mi hl.1 hr hs hx
    have hlv := liv_live hG.rest
    have hm0 := hG.m0
    refine ⟨stdT (tabS s) 0, s.t.length, s.most.toNat, h1, h1.full.good.n1, by rw [h3]; omega, by omega, hG.n2, fun lim' ha hb' => ?_, fun lim' ha hb' => ?_⟩
    · have hn1 := hG.n1
      have h4 := run_mono hl.1 hr hs hx ha
      rw [enumE_some hp (hb lim' (by omega) hb') h4, h2, show ((s.most.toNat : Nat) : Int) = s.most by omega]
    · have hn2 := hG.n2
      exact enumE_full hp (hb lim' ha (by omega)) (run_less hl.1 hr hs hx ha hb')
theorem Ct.Coset.holdsE {t : Tb} (h : Coset g rels sub t) (hp : presE g rels = 0) (hs : ∀ j, j < sub.length → LOk g (sub.getD j [])) : Go.Proofs.holdsE g rels sub t = (true, 0) := by
  have h4 : (sub.any fun w => w.any (letBad g)) = false := by
    rw [List.any_eq_false]
    intro w hw
    obtain ⟨j, hj, rfl⟩ := List.mem_iff_getElem.1 hw
    have := hs j hj
    rw [List.getD_eq_getElem?_getD, List.getElem?_eq_getElem hj] at this
    have h5 := letBad_ok this
    simp only [Option.getD_some] at h5
    rw [h5]; simp
  unfold Go.Proofs.holdsE
  rw [if_neg (by rw [hp]; simp), Int.toNat_natCast, if_neg (by rw [h4]; simp), check_of_good h.full.good, if_neg (by simp), h.holds]
end
end Go.Proofs
namespace Go.Proofs
open Go.RowKit Go.Shelf Go.Proofs.Ct Go.Maps
theorem cells40 {w : World} {b : Nat} {x y : Value} (h : w.heap[b]? = some (.cells #[x, y] 40 (0, 0))) : w.cell? ⟨b, 0, none⟩ = some x ∧ w.cell? ⟨b, 1, none⟩ = some y := by
  refine ⟨?_, ?_⟩ <;> (rw [cell_of_row _ _ _ _ _ _ h]; rfl)
theorem enumS (g : Int) (rels sub : List W) (limit : Int) (T : Tb) (a b c : Int) (h : enumE g rels sub limit = (T, (a, b), c)) (h1 : ∀ j, (sub.getD j []).length ≤ 100000) (h2 : sub.length ≤ 1000000) (W : World) (vr vs : Value) (hr : Tab W vr rels) (hs : Tab W vs sub) :
    Calls Try.prog 32 #[.agg #[.int .i64 g, vr], vs, .int .i64 limit] W fun e w' => (∃ u, e = .returned (.tuple #[u, .agg #[.int .i64 a, .int .i64 b, .int .i64 0], .int .i64 c]) ∧ Tab w' u T) ∧ Below W.heap.size W w' :=
  (enum32_any W vr vs g rels sub limit hr hs h1 h2).mono fun e w' (⟨⟨u, h5, h6⟩, h7⟩ : EnumPost g rels sub limit W e w') => by
    rw [h] at h5 h6
    exact ⟨⟨u, h5, h6⟩, h7⟩
theorem sameS (W : World) (a b : Value) (T : Tb) (h1 : Tab W a T) (h2 : Tab W b T) : Calls Try.prog 34 #[a, b] W fun e w'' => e = .returned (.bool true) ∧ Below W.heap.size W w'' :=
  (same18_any W a b _ _ h1 h2).mono fun _ _ ⟨h, q, h'⟩ => ⟨h.trans (ret_bool (decide_eq_true rfl)), h' ▸ below_drewN (Below.refl _ _) q⟩
/-- a box of a presentation is read -/
theorem box40 (W : World) (x y : Value) : ∀ V, Below (W.alloc (.cells #[x, y] 40)).heap.size (W.alloc (.cells #[x, y] 40)) V → (Instr.loadAt 40 (.pointer (some ⟨W.heap.size, 0, none⟩))).run Try.prog V = .ok (.agg #[x, y]) V ∧ V.cell? ⟨W.heap.size, 0, none⟩ = some x := fun V h => by
  have h1 := (h.block W.heap.size (by simp)).trans (heap_alloc_new W (.cells #[x, y] 40))
  exact ⟨load40 h1, (cells40 h1).1⟩
end Go.Proofs
namespace Go.Proofs
open Go.RowKit Go.Shelf Go.Proofs.Ct Go.Maps
section
variable {o : Oper} {a : Act} {w w' : World} {n : Nat} {v : Value} {ops : Array Oper}
theorem idx_offs {T E : TypeId} (hu : Try.prog.underlying T = some (.slice E)) (hs : ∀ w, (sizeOf E).run Try.prog w = .ok 1 w) (g off m c i : Nat) (hi : i < m) (w : World) :
    (Instr.indexAt T (.slice (some ⟨g, off, none⟩) m c) (.int .i64 (i : Int))).run Try.prog w = .ok (.pointer (some ⟨g, off + i, none⟩)) w := by
  have h1 : (0 : Int) ≤ (i : Int) ∧ (i : Int) < (m : Int) := ⟨by omega, by omega⟩
  have h2 := Addr.add_mid g off i
  simp [Instr.indexAt, asIntOf, run_underlying hu, hs, h2, hi]
end
section
variable {N : Nat} {wr : Nat → Bool} {us : Nat → Nat → Bool} {O : Nat → Nat → Prop} {i j : Nat} {w w' W0 : World} {base : Nat} {v : Value}
end
theorem agg25 (w : World) : (isAgg 25).run Try.prog w = .ok false w := by kernel_rfl
theorem size25 (w : World) : (sizeOf 25).run Try.prog w = .ok 1 w := by kernel_rfl
end Go.Proofs
namespace Go.Proofs
open Go.RowKit Go.Shelf Go.Proofs.Ct Go.Maps
def knB (n m : Nat) : List Value := (List.range n).map fun i => Value.bool (decide (i < m))
theorem length_knB (n m : Nat) : (knB n m).length = n := by simp [knB]
theorem knB_get {n m i : Nat} (h : i < n) : (knB n m)[i]? = some (.bool (decide (i < m))) := by simp [knB, h]
theorem knB_set {n m : Nat} : (knB n m).set m (.bool true) = knB n (m + 1) := by
  apply List.ext_getElem?
  intro i
  rw [List.getElem?_set, length_knB]
  by_cases hi : i < n
  · rw [knB_get hi, knB_get hi]
    by_cases e : m = i
    · subst e; simp [hi]
    · rw [if_neg e]
      have : decide (i < m) = decide (i < m + 1) := by
        have : (i < m) ↔ (i < m + 1) := ⟨fun h => by omega, fun h => by omega⟩
        simp [this]
      rw [this]
  · have h1 : (knB n m)[i]? = none := List.getElem?_eq_none (by rw [length_knB]; omega)
    have h2 : (knB n (m + 1))[i]? = none := List.getElem?_eq_none (by rw [length_knB]; omega)
    rw [h1, h2]
    by_cases e : m = i
    · simp [e, hi]
    · rw [if_neg e]
/-- the state of least -/
structure LS (R : List (List Int)) (n : Nat) (W0 : World) (kb bb mk mb : Nat) (vl vn : Value) (ll ln : List Int) (w : World) : Prop where
  below : Below W0.heap.size W0 w
  kbl : W0.heap.size ≤ kb
  bbl : W0.heap.size ≤ bb
  known : w.heap[kb]? = some (.cells (knB n mk).toArray 4 (0, 0))
  best : ∃ (vals : List Value) (F : Nat → Prop), w.heap[bb]? = some (.cells vals.toArray 25 (0, 0)) ∧ vals.length = n ∧ (∀ j, j < mb → ∃ u, vals[j]? = some u ∧ IntsF F w u (R.getD j [])) ∧ (∀ k, F k → W0.heap.size ≤ k ∧ k < w.heap.size ∧ k ≠ kb ∧ k ≠ bb ∧ vn.ownBlock ≠ some k)
  lay : OwnI W0.heap.size w vl ll
  nxt : OwnI W0.heap.size w vn ln
  sep : ∀ r, vl.ownBlock = some r → vn.ownBlock ≠ some r
section
variable {R : List (List Int)} {n : Nat} {W0 w w' : World} {kb bb mk mb : Nat} {vl vn : Value} {ll ln : List Int}
theorem own3 {base : Nat} {v : Value} {xs : List Int} (h : OwnI base w v xs) {q : Nat} {C : Array Value} {T : TypeId} (hq : w.heap[q]? = some (.cells C T (0, 0))) (hT : T ≠ 3) : v.ownBlock ≠ some q := fun e => by
  obtain ⟨-, C', hC'⟩ := owns_block h q e
  rw [hq] at hC'
  injection hC' with h1
  injection h1 with h2 h3
  exact hT h3
theorem LS.ne (h : LS R n W0 kb bb mk mb vl vn ll ln w) : kb ≠ bb := fun e => by
  obtain ⟨vals, F, h1, -⟩ := h.best
  rw [← e, h.known] at h1
  injection h1 with h2
  injection h2 with h3 h4
  cases h4
theorem LS.lk (h : LS R n W0 kb bb mk mb vl vn ll ln w) : vl.ownBlock ≠ some kb ∧ vl.ownBlock ≠ some bb ∧ vn.ownBlock ≠ some kb ∧ vn.ownBlock ≠ some bb := by
  obtain ⟨vals, F, h1, -⟩ := h.best
  exact ⟨own3 h.lay h.known (by decide), own3 h.lay h1 (by decide), own3 h.nxt h.known (by decide), own3 h.nxt h1 (by decide)⟩
theorem LS.known_at (h : LS R n W0 kb bb mk mb vl vn ll ln w) {s : Nat} (hs : s < n) : w.cell? ⟨kb, s, none⟩ = some (.bool (decide (s < mk))) := by
  rw [cell_of_row _ _ _ _ _ _ h.known]
  simpa using knB_get (m := mk) hs
theorem LS.best_at (h : LS R n W0 kb bb mk mb vl vn ll ln w) {r : Nat} (hr : r < mb) : ∃ A c, w.cell? ⟨bb, r, none⟩ = some (.slice A (R.getD r []).length c) ∧ IntsAt w (.slice A (R.getD r []).length c) (R.getD r []) := by
  obtain ⟨vals, F, h1, h2, h3, h4⟩ := h.best
  obtain ⟨u, hu, hi⟩ := h3 r hr
  obtain ⟨A, c, rfl, -, -, -⟩ := hi.at_.open_
  refine ⟨A, c, ?_, hi.at_⟩
  rw [cell_of_row _ _ _ _ _ _ h1]
  simpa using hu
theorem LS.best_cell (h : LS R n W0 kb bb mk mb vl vn ll ln w) {r : Nat} (hr : r < n) : ∃ u, w.cell? ⟨bb, r, none⟩ = some u := by
  obtain ⟨vals, F, h1, h2, h3, h4⟩ := h.best
  refine ⟨vals[r]'(by omega), ?_⟩
  rw [cell_of_row _ _ _ _ _ _ h1]
  simp [h2, hr]
theorem LS.move (h : LS R n W0 kb bb mk mb vl vn ll ln w) (hb : Below w.heap.size w w') : LS R n W0 kb bb mk mb vl vn ll ln w' := by
  obtain ⟨vals, F, h1, h2, h3, h4⟩ := h.best
  exact ⟨bl3 h.below hb, h.kbl, h.bbl, (hb.block _ (Array.getElem?_eq_some_iff.1 h.known).1).trans h.known,
    ⟨vals, F, (hb.block _ (Array.getElem?_eq_some_iff.1 h1).1).trans h1, h2, fun j hj => let ⟨u, hu, hi⟩ := h3 j hj; ⟨u, hu, hi.keep (Ag.below hb fun k hk => (h4 k hk).2.1)⟩, fun k hk => ⟨(h4 k hk).1, Nat.lt_of_lt_of_le (h4 k hk).2.1 hb.size, (h4 k hk).2.2⟩⟩,
    owns_below h.lay hb, owns_below h.nxt hb, h.sep⟩
theorem LS.know (h : LS R n W0 kb bb mk mb vl vn ll ln w) : LS R n W0 kb bb (mk + 1) mb vl vn ll ln (w.setCell ⟨kb, mk, none⟩ (.bool true)) := by
  obtain ⟨vals, F, h1, h2, h3, h4⟩ := h.best
  obtain ⟨k1, k2, k3, k4⟩ := h.lk
  have ho : ∀ k, k ≠ kb → (w.setCell ⟨kb, mk, none⟩ (.bool true)).heap[k]? = w.heap[k]? := fun k hk => heap_setCell_other w _ k _ hk
  have hsz : (w.setCell ⟨kb, mk, none⟩ (.bool true)).heap.size = w.heap.size := by simp [World.setCell]
  refine ⟨⟨h.below.os, h.below.tape, h.below.output, by rw [hsz]; exact h.below.size, fun k hk => (ho k (by have := h.kbl; omega)).trans (h.below.block k hk)⟩, h.kbl, h.bbl, ?_,
    ⟨vals, F, (ho bb h.ne.symm).trans h1, h2, fun j hj => let ⟨u, hu, hi⟩ := h3 j hj; ⟨u, hu, hi.keep fun k hk => ho k (h4 k hk).2.2.1⟩, fun k hk => by rw [hsz]; exact h4 k hk⟩,
    owns_keep h.lay fun r hr => ho r fun e => k1 (by rw [hr, e]), owns_keep h.nxt fun r hr => ho r fun e => k3 (by rw [hr, e]), h.sep⟩
  rw [box_set h.known]
  congr 2
  rw [← knB_set]
  simp
theorem LS.put (h : LS R n W0 kb bb mk mb vl vn ll ln w) {A : Option Addr} {c : Nat} {B : Nat} (hB : ∀ r, vn.ownBlock = some r → r < B) (hB2 : kb < B ∧ bb < B ∧ W0.heap.size ≤ B) (ho : OwnI B w (.slice A (R.getD mb []).length c) (R.getD mb [])) (hf : Fits (R.getD mb [])) (hn : mb < n) :
    LS R n W0 kb bb mk (mb + 1) vl vn ll ln (w.setCell ⟨bb, mb, none⟩ (.slice A (R.getD mb []).length c)) := by
  obtain ⟨vals, F, h1, h2, h3, h4⟩ := h.best
  obtain ⟨k1, k2, k3, k4⟩ := h.lk
  have hoo : ∀ k, k ≠ bb → (w.setCell ⟨bb, mb, none⟩ (.slice A (R.getD mb []).length c)).heap[k]? = w.heap[k]? := fun k hk => heap_setCell_other w _ k _ hk
  have hsz : (w.setCell ⟨bb, mb, none⟩ (.slice A (R.getD mb []).length c)).heap.size = w.heap.size := by simp [World.setCell]
  have hI := IntsF.of_own ho hf
  have hG : ∀ k, (Value.slice A (R.getD mb []).length c).ownBlock = some k → B ≤ k ∧ k < w.heap.size := fun k hk => ⟨(owns_block ho k hk).1, owns_lt ho hk⟩
  refine ⟨⟨h.below.os, h.below.tape, h.below.output, by rw [hsz]; exact h.below.size, fun k hk => (hoo k (by have := h.bbl; omega)).trans (h.below.block k hk)⟩, h.kbl, h.bbl, (hoo kb h.ne).trans h.known,
    ⟨vals.set mb (.slice A (R.getD mb []).length c), fun k => F k ∨ (Value.slice A (R.getD mb []).length c).ownBlock = some k, ?_, by simp [h2], fun j hj => ?_, fun k hk => ?_⟩,
    owns_keep h.lay fun r hr => hoo r fun e => k2 (by rw [hr, e]), owns_keep h.nxt fun r hr => hoo r fun e => k4 (by rw [hr, e]), h.sep⟩
  · rw [box_set h1]
    simp
  · by_cases e : j = mb
    · subst e
      exact ⟨_, by simp [h2, hn], (hI.keep fun k hk => hoo k fun e => by have := (hG k hk).1; omega).mono fun k hk => .inr hk⟩
    · obtain ⟨u, hu, hi⟩ := h3 j (by omega)
      refine ⟨u, by rw [List.getElem?_set, if_neg (fun h => e h.symm)]; exact hu, (hi.keep fun k hk => hoo k (h4 k hk).2.2.2.1).mono fun k hk => .inl hk⟩
  · rw [hsz]
    rcases hk with hk | hk
    · exact h4 k hk
    · obtain ⟨g1, g2⟩ := hG k hk
      exact ⟨by omega, g2, by omega, by omega, fun e => by have := hB k e; omega⟩
theorem LS.app (h : LS R n W0 kb bb mk mb vl vn ll ln w) {A : Option Addr} {c : Nat} {x : Int} (ho : OwnI W0.heap.size w' (.slice A (ln.length + 1) c) (ln ++ [x])) (hg : w.grownBy w' vn.ownBlock) (hw : (Value.slice A (ln.length + 1) c).ownBlock = vn.ownBlock ∨ ∃ r, (Value.slice A (ln.length + 1) c).ownBlock = some r ∧ w.heap.size ≤ r) :
    LS R n W0 kb bb mk mb vl (.slice A (ln.length + 1) c) ll (ln ++ [x]) w' := by
  obtain ⟨vals, F, h1, h2, h3, h4⟩ := h.best
  obtain ⟨k1, k2, k3, k4⟩ := h.lk
  have hk : ∀ k, k < w.heap.size → vn.ownBlock ≠ some k → w'.heap[k]? = w.heap[k]? := fun k h1 h2 => hg.block k h1 fun e => h2 e.symm
  have hkl := (Array.getElem?_eq_some_iff.1 h.known).1
  have hbl := (Array.getElem?_eq_some_iff.1 h1).1
  have hne : ∀ k, k < w.heap.size → vn.ownBlock ≠ some k → (Value.slice A (ln.length + 1) c).ownBlock ≠ some k := fun k h1 h2 e => by
    rcases hw with hw | ⟨r, hw, hr⟩
    · exact h2 (by rw [← hw]; exact e)
    · rw [hw] at e
      have := Option.some.inj e
      omega
  refine ⟨grown_below rfl h.below hg fun r hr => (owns_block h.nxt r hr).1, h.kbl, h.bbl, (hk kb hkl k3).trans h.known,
    ⟨vals, F, (hk bb hbl k4).trans h1, h2, fun j hj => let ⟨u, hu, hi⟩ := h3 j hj; ⟨u, hu, hi.keep fun k hF => hk k (h4 k hF).2.1 (h4 k hF).2.2.2.2⟩, fun k hF => ⟨(h4 k hF).1, Nat.lt_of_lt_of_le (h4 k hF).2.1 hg.size, (h4 k hF).2.2.1, (h4 k hF).2.2.2.1, hne k (h4 k hF).2.1 (h4 k hF).2.2.2.2⟩⟩,
    owns_keep h.lay fun r hr => hk r (owns_lt h.lay hr) (h.sep r hr), ho, fun r hr => hne r (owns_lt h.lay hr) (h.sep r hr)⟩
theorem LS.turn (h : LS R n W0 kb bb mk mb vl vn ll ln w) : LS R n W0 kb bb mk mb vn (.slice none 0 0) ln [] w := by
  obtain ⟨vals, F, h1, h2, h3, h4⟩ := h.best
  exact ⟨h.below, h.kbl, h.bbl, h.known, ⟨vals, F, h1, h2, h3, fun k hk => ⟨(h4 k hk).1, (h4 k hk).2.1, (h4 k hk).2.2.1, (h4 k hk).2.2.2.1, fun e => by cases e⟩⟩, h.nxt, World.ownsRow_nil _ _ _ _, fun r _ e => by cases e⟩
end
theorem info4p : ∃ i, Try.prog.info? 4 = some i ∧ i.zero = some (.bool false) ∧ i.size = 1 ∧ i.bytes = 1 := by
  have h : (Try.prog.info? 4).map (fun i => (i.zero, i.size, i.bytes)) = some (some (.bool false), 1, 1) := by kernel_rfl
  cases hq : Try.prog.info? 4 with
  | none => simp [hq] at h
  | some i => simp [hq] at h; exact ⟨i, rfl, h⟩
theorem made4 (n : Nat) : madeCells (Value.bool false).cells n = Array.replicate n (.bool false) := by
  apply Array.ext_getElem?
  intro k
  simp only [madeCells, Value.cells, Array.getElem?_map, Array.getElem?_range, Array.getElem?_replicate]
  by_cases h : k < n
  · simp [h, Nat.mod_one]
  · simp [h]
theorem make31r (w : World) (n : Nat) (hn : n ≤ 100000) : (Instr.makeSlice 31 (.int .i64 (n : Int)) (.int .i64 (n : Int))).run Try.prog w =
    .ok (.slice (some ⟨w.heap.size, 0, none⟩) n n) (w.alloc (.cells (Array.replicate n (.slice none 0 0)) 25)) := by
  obtain ⟨i, hi, hz, hs, hb⟩ := info25p
  have := run_makeSlice (P := Try.prog) w 31 25 i (.slice none 0 0) Try.underlying31 hi hz .i64 .i64 n n (by omega) (Int.le_refl _) (by rw [hs]; simp; omega) (by rw [hb]; omega) (by omega)
  rw [this, hs, Int.toNat_natCast, Nat.mul_one, made24]
theorem make138r (w : World) (n : Nat) (hn : n ≤ 100000) : (Instr.makeSlice 138 (.int .i64 (n : Int)) (.int .i64 (n : Int))).run Try.prog w =
    .ok (.slice (some ⟨w.heap.size, 0, none⟩) n n) (w.alloc (.cells (Array.replicate n (.bool false)) 4)) := by
  obtain ⟨i, hi, hz, hs, hb⟩ := info4p
  have := run_makeSlice (P := Try.prog) w 138 4 i (.bool false) Try.underlying138 hi hz .i64 .i64 n n (by omega) (Int.le_refl _) (by rw [hs]; simp; omega) (by rw [hb]; omega) (by omega)
  rw [this, hs, Int.toNat_natCast, Nat.mul_one, made4]
theorem knB_zero (n : Nat) : (knB n 0).toArray = Array.replicate n (.bool false) := by
  have : knB n 0 = List.replicate n (.bool false) := by
    apply List.ext_getElem
    · simp [knB]
    · intro i h1 h2; simp [knB]
  rw [this, List.toArray_replicate]
/-- best and known are made -/
theorem LS.start {R : List (List Int)} (hR : R.getD 0 [] = []) (w : World) (n : Nat) (hn : 1 ≤ n ∧ n ≤ 100000) : ∃ w1 w2 : World, (Instr.makeSlice 31 (.int .i64 (n : Int)) (.int .i64 (n : Int))).run Try.prog w = .ok (.slice (some ⟨w.heap.size, 0, none⟩) n n) w1 ∧
    (Instr.makeSlice 138 (.int .i64 (n : Int)) (.int .i64 (n : Int))).run Try.prog w1 = .ok (.slice (some ⟨w.heap.size + 1, 0, none⟩) n n) w2 ∧ LS R n w (w.heap.size + 1) w.heap.size 0 1 (.slice none 0 0) (.slice none 0 0) [] [] w2 := by
  refine ⟨_, _, make31r w n hn.2, by have := make138r (w.alloc (.cells (Array.replicate n (.slice none 0 0)) 25)) n hn.2; rwa [World.size_alloc] at this, ?_⟩
  have hb1 : Below w.heap.size w (w.alloc (.cells (Array.replicate n (.slice none 0 0)) 25)) := (Below.refl _ _).alloc (Nat.le_refl _) _
  have hb2 : Below (w.alloc (.cells (Array.replicate n (.slice none 0 0)) 25)).heap.size (w.alloc (.cells (Array.replicate n (.slice none 0 0)) 25)) ((w.alloc (.cells (Array.replicate n (.slice none 0 0)) 25)).alloc (.cells (Array.replicate n (.bool false)) 4)) := (Below.refl _ _).alloc (Nat.le_refl _) _
  have hk := heap_alloc_new (w.alloc (.cells (Array.replicate n (.slice none 0 0)) 25)) (.cells (Array.replicate n (.bool false)) 4)
  rw [World.size_alloc] at hk
  refine ⟨bl3 hb1 hb2, Nat.le_succ _, Nat.le_refl _, by rw [knB_zero]; exact hk, ⟨List.replicate n (.slice none 0 0), fun _ => False, ?_, by simp, fun j hj => ?_, fun k hk => hk.elim⟩, World.ownsRow_nil _ _ _ _, World.ownsRow_nil _ _ _ _, fun r hr => by cases hr⟩
  · rw [List.toArray_replicate]
    exact (hb2.block _ (by simp)).trans (heap_alloc_new w _)
  · obtain rfl : j = 0 := by omega
    refine ⟨.slice none 0 0, by rw [List.getElem?_replicate, if_pos (by omega)], fun w' _ => ?_⟩
    rw [hR]
    exact intsAt_nil
theorem LS.newlay {R : List (List Int)} {n : Nat} {W0 w : World} {kb bb mk mb : Nat} {vl : Value} {ll : List Int} (h : LS R n W0 kb bb mk mb vl (.slice none 0 0) ll [] w) (x : Int) : LS R n W0 kb bb mk mb (.slice (some ⟨w.heap.size, 0, none⟩) 1 1) (.slice none 0 0) [x] [] (w.alloc (.cells #[.int .i64 x] 3)) := by
  have hal : Below w.heap.size w (w.alloc (.cells #[.int .i64 x] 3)) := (Below.refl _ _).alloc (Nat.le_refl _) _
  have h2 := h.move hal
  have hs := h.below.size
  exact ⟨h2.below, h2.kbl, h2.bbl, h2.known, h2.best, ⟨rfl, .inr ⟨w.heap.size, 1, #[.int .i64 x], rfl, hs, heap_alloc_new w _, Nat.le_refl _, by simp [maxLen], rfl, rfl⟩⟩, h2.nxt, fun r _ e => by cases e⟩
/-- the numbers from a up to b -/
def iotaR (a b : Nat) : List Int := (List.range (b - a)).map fun i => ((a + i : Nat) : Int)
theorem length_iotaR (a b : Nat) : (iotaR a b).length = b - a := by simp [iotaR]
theorem iotaR_get {a b i : Nat} (h : i < b - a) : (iotaR a b).getD i 0 = ((a + i : Nat) : Int) := by simp [iotaR, List.getD_eq_getElem?_getD, h]
theorem iotaR_snoc {a b : Nat} (h : a ≤ b) : iotaR a (b + 1) = iotaR a b ++ [(b : Int)] := by
  unfold iotaR
  rw [show b + 1 - a = (b - a) + 1 by omega, List.range_succ, List.map_append]
  simp
  omega
theorem iotaR_self (a : Nat) : iotaR a a = [] := by simp [iotaR]
theorem own_cells {base : Nat} {w : World} {v : Value} {xs : List Int} (h : OwnI base w v xs) {k : Nat} (hk : k < xs.length) : ∃ g c, v = .slice (some ⟨g, 0, none⟩) xs.length c ∧ ∀ k, k < xs.length → w.cell? ⟨g, k, none⟩ = some (.int .i64 (xs.getD k 0)) := by
  obtain ⟨h0, h1⟩ := h
  rcases h1 with ⟨rfl, h2⟩ | ⟨g, cap, cur, rfl, -, hg, -, -, -, ht⟩
  · omega
  · refine ⟨g, cap, rfl, fun k hk => ?_⟩
    rw [cell_of_row _ _ _ _ _ _ hg]
    have h3 : (ints xs)[k]? = some (.int .i64 (xs.getD k 0)) := by simp [ints, List.getElem?_map, List.getD_eq_getElem?_getD, List.getElem?_eq_getElem hk]
    rw [← ht, List.getElem?_take] at h3
    split at h3
    · simpa using h3
    · cases h3
theorem fits_ok {g : Nat} (hg : g ≤ 1000) {w : W} (h : LOk g w) : Fits w := fun x hx => by
  have := h x hx
  omega
theorem frozen_row {w : World} {b : Nat} {C : Array Value} {T : TypeId} (h : w.heap[b]? = some (.cells C T (0, 0))) (k : Nat) : w.frozen? ⟨b, k, none⟩ = false := by
  simp [World.frozen?, h]
def firstOf (n : Nat) (v : Value) (w : World) : Nat := match v with
  | .slice (some a) (_ + 1) _ => (match w.cell? a with | some (.int _ z) => z.toNat | _ => n)
  | _ => n
theorem firstOf_own {base n a : Nat} {w : World} {v : Value} {xs : List Int} (h : OwnI base w v xs) (h0 : 0 < xs.length) (ha : xs.getD 0 0 = (a : Int)) : firstOf n v w = a := by
  obtain ⟨g, c, rfl, hc⟩ := own_cells h h0
  obtain ⟨k, hk⟩ : ∃ k, xs.length = k + 1 := ⟨xs.length - 1, by omega⟩
  have h1 := hc 0 h0
  rw [ha] at h1
  rw [hk]
  simp [firstOf, h1]
theorem firstOf_nil {n : Nat} {w : World} {A : Option Addr} {c : Nat} : firstOf n (.slice A 0 c) w = n := by
  cases A <;> rfl
theorem push_fits {R : List (List Int)} {n : Nat} {W0 w : World} {kb bb m r s : Nat} {vl vn : Value} {ll ln : List Int} {lc : Int} (h : LS R n W0 kb bb m m vl vn ll ln w) (hr : r < m) (hsm : s = m) (hsn : s < n) (_hn : n ≤ 100000) (hR : R.getD s [] = R.getD r [] ++ [lc]) (hf : ∀ j, Fits (R.getD j []) ∧ (R.getD j []).length ≤ 100000) (hln : ln.length ≤ 100000) :
    ∃ (Ab : Option Addr) (cb : Nat) (A1 : Option Addr) (c1 : Nat) (w3 : World) (A2 : Option Addr) (c2 : Nat) (w4 : World) (A3 : Option Addr) (c3 : Nat) (w6 : World) (u : Value),
      ((w.setCell ⟨kb, s, none⟩ (.bool true)).alloc (.cells #[] 3)).cell? ⟨bb, r, none⟩ = some (.slice Ab (R.getD r []).length cb) ∧
      (Builtin.append_ #[25, 25] 25 #[.slice (some ⟨(w.setCell ⟨kb, s, none⟩ (.bool true)).heap.size, 0, none⟩) 0 0, .slice Ab (R.getD r []).length cb]).run Try.prog ((w.setCell ⟨kb, s, none⟩ (.bool true)).alloc (.cells #[] 3)) = .ok (.slice A1 (R.getD r []).length c1) w3 ∧
      (Builtin.append_ #[25, 25] 25 #[.slice A1 (R.getD r []).length c1, .slice (some ⟨w3.heap.size, 0, none⟩) 1 1]).run Try.prog (w3.alloc (.cells #[.int .i64 lc] 3)) = .ok (.slice A2 ((R.getD r []).length + 1) c2) w4 ∧
      w4.cell? ⟨bb, s, none⟩ = some u ∧ w4.frozen? ⟨bb, s, none⟩ = false ∧
      (Builtin.append_ #[24, 24] 24 #[vn, .slice (some ⟨(w4.setCell ⟨bb, s, none⟩ (.slice A2 ((R.getD r []).length + 1) c2)).heap.size, 0, none⟩) 1 1]).run Try.prog ((w4.setCell ⟨bb, s, none⟩ (.slice A2 ((R.getD r []).length + 1) c2)).alloc (.cells #[.int .i64 (s : Int)] 3)) = .ok (.slice A3 (ln.length + 1) c3) w6 ∧
      LS R n W0 kb bb (m + 1) (m + 1) vl (.slice A3 (ln.length + 1) c3) ll (ln ++ [(s : Int)]) w6 ∧ (Below (w.setCell ⟨kb, s, none⟩ (.bool true)).heap.size (w.setCell ⟨kb, s, none⟩ (.bool true)) w4) := by
  subst hsm
  have L1 := h.know
  generalize w.setCell ⟨kb, s, none⟩ (.bool true) = wk at *
  have hal : Below wk.heap.size wk (wk.alloc (.cells #[] 3)) := (Below.refl _ _).alloc (Nat.le_refl _) _
  obtain ⟨Ab, cb, hcb, hib⟩ := (L1.move hal).best_at hr
  obtain ⟨A1, c1, w3, hr1, ho1, hg1, -⟩ := app_ints 25 25 Try.underlying25 (wk.alloc (.cells #[] 3)) wk.heap.size _ [] (own_new wk) _ _ hib (by simp) (by have := (hf r).2; omega) hal.size
  rw [List.nil_append] at hr1 ho1
  have hb3 : Below wk.heap.size wk w3 := hal.grown hg1 hal.size fun q hq => (owns_block (own_new wk) q hq).1
  obtain ⟨A2, c2, w4, hr2, ho2, hg2, -⟩ := push_int 25 25 Try.underlying25 w3 wk.heap.size _ _ ho1 lc (by have := (hf r).2; omega) hb3.size
  have hb4 : Below wk.heap.size wk w4 := hb3.grown hg2 hb3.size fun q hq => (owns_block ho1 q hq).1
  have L2 := L1.move hb4
  obtain ⟨u, hu⟩ := L2.best_cell hsn
  have hfz : w4.frozen? ⟨bb, s, none⟩ = false := by
    obtain ⟨vals, F, h1, -⟩ := L2.best
    exact frozen_row h1 s
  have hlen : (R.getD s []).length = (R.getD r []).length + 1 := by rw [hR]; simp
  rw [← hR] at ho2
  have L3 := L2.put (A := A2) (c := c2) (B := wk.heap.size) (fun q hq => owns_lt L1.nxt hq) ⟨(Array.getElem?_eq_some_iff.1 L1.known).1, by
    obtain ⟨vals, F, h1, -⟩ := L1.best
    exact (Array.getElem?_eq_some_iff.1 h1).1, L1.below.size⟩ (by rw [hlen]; exact ho2) (hf s).1 hsn
  rw [hlen] at L3
  generalize hw5 : w4.setCell ⟨bb, s, none⟩ (.slice A2 ((R.getD r []).length + 1) c2) = w5 at *
  obtain ⟨A3, c3, w6, hr3, ho3, hg3, hw3⟩ := push_int 24 24 Try.underlying24 w5 W0.heap.size vn ln L3.nxt (s : Int) (by omega) L3.below.size
  exact ⟨Ab, cb, A1, c1, w3, A2, c2, w4, A3, c3, w6, u, hcb, hr1, hr2, hu, hfz, by rw [hw5]; exact hr3, L3.app ho3 hg3 hw3, hb4⟩
theorem lay_at {base : Nat} {w : World} {gl n c a b k : Nat} (h : OwnI base w (.slice (some ⟨gl, 0, none⟩) n c) (iotaR a b)) (hk : k < b - a) : w.cell? ⟨gl, k, none⟩ = some (.int .i64 ((a + k : Nat) : Int)) := by
  obtain ⟨g2, c2, e2, h2⟩ := own_cells h (k := k) (by rw [length_iotaR]; exact hk)
  obtain ⟨e3, -, -⟩ := Value.slice.inj e2
  injection e3 with e3
  injection e3 with e3 _ _
  rw [e3, h2 k (by rw [length_iotaR]; exact hk), iotaR_get hk]
theorem agg4 (w : World) : (isAgg 4).run Try.prog w = .ok false w := by kernel_rfl
theorem size4 (w : World) : (sizeOf 4).run Try.prog w = .ok 1 w := by kernel_rfl
theorem call34 (args : Array Value) (w : World) : (callFunc 34 args).run Try.prog w = .ok (.enter 34 args) w := enters_of Try.func34 (by kernel_rfl) rfl args w
theorem bs23_1 (A : Option Addr) (n c : Nat) (w : World) : (Instr.buildSlice 23 1 #[(0, .slice A n c)]).run Try.prog w = .ok (.slice (some ⟨w.heap.size, 0, none⟩) 1 1) (w.alloc (.cells #[.slice A n c] 24)) := by kernel_rfl
theorem r_bs23_1 {o : Oper} {a : Act} {w : World} (x : Operand) (A : Option Addr) (m c : Nat) (ho : o.op = .buildSlice 23 1 #[(0, x)]) (hx : a.eval x = .slice A m c) : (execOp a.eval o).run Try.prog w = .ok (.value (.slice (some ⟨w.heap.size, 0, none⟩) 1 1)) (w.alloc (.cells #[.slice A m c] 24)) := by
  have hb := bs23_1 A m c w
  unfold execOp
  simp only [ho, List.map_toArray, List.map_cons, List.map_nil, hx, Sem.run_bind, hb, Result.andThen_ok]
  rfl
theorem r_not {o : Oper} {a : Act} {w : World} (x : Operand) (b : Bool) (ho : o.op = .unOp .not 4 x) (hx : a.eval x = .bool b) : (execOp a.eval o).run Try.prog w = .ok (.value (.bool (!b))) w := by
  unfold execOp
  simp only [ho, hx]
  simp [go_sem]
theorem tab_one_new24 {w : World} {X : List Int} {A : Option Addr} {c : Nat} {F G : Nat → Prop} (hx : IntsF G w (.slice A X.length c) X) (hg : ∀ k, G k → F k ∧ k < w.heap.size) (hq : F w.heap.size) : TabS F (w.alloc (.cells #[.slice A X.length c] 24)) (.slice (some ⟨w.heap.size, 0, none⟩) 1 1) [X] := by
  have hal : Below w.heap.size w (w.alloc (.cells #[.slice A X.length c] 24)) := (Below.refl _ _).alloc (Nat.le_refl _) _
  refine ⟨[.slice A X.length c], fun w' ha => ?_, rfl, fun k hk => ?_⟩
  · have h1 := (ha w.heap.size hq).trans (heap_alloc_new w _)
    refine ⟨_, 1, 1, rfl, rfl, Nat.le_refl _, by simp [maxLen], fun _ => ⟨w.heap.size, 0, rfl, fun m u hu => ?_⟩⟩
    rw [cell_of_row _ _ _ _ _ _ h1, Nat.zero_add]
    simpa using hu
  · obtain rfl : k = 0 := by simp at hk; omega
    exact ⟨_, rfl, (hx.keep fun q hq => hal.block q (hg q hq).2).mono fun q hq => (hg q hq).1⟩
end Go.Proofs
namespace Go.Proofs.Ct
theorem col_letter (c : Nat) : col (letter c) = c := by
  unfold col letter
  split <;> split <;> omega
def RW (t : Tb) (out : List W) : Prop := ∀ j, j < out.length → Way t 0 (out.getD j []) j
section
variable {g : Nat} {t : Tb}
theorem repCol_len (r c : Nat) (out : List W) : out.length ≤ (repCol t r c out).length := by
  unfold repCol
  split
  · simp
  · exact Nat.le_refl _
theorem RW.col {out : List W} (h : RW t out) {r c : Nat} (hr : r < out.length) : RW t (repCol t r c out) := by
  unfold repCol
  split
  · rename_i he
    intro j hj
    rcases Nat.lt_or_ge j out.length with h1 | h1
    · have : (out ++ [out.getD r [] ++ [letter c]]).getD j [] = out.getD j [] := by simp [List.getD_eq_getElem?_getD, List.getElem?_append_left h1]
      rw [this]
      exact h j h1
    · obtain rfl : j = out.length := by simp at hj; omega
      have : (out ++ [out.getD r [] ++ [letter c]]).getD out.length [] = out.getD r [] ++ [letter c] := by simp [List.getD_eq_getElem?_getD]
      rw [this]
      refine way_app.2 ⟨r, h r hr, way_one.2 ?_⟩
      unfold Edge
      rw [col_letter]
      exact he
  · exact h
theorem RW.row {out : List W} (h : RW t out) {r : Nat} (hr : r < out.length) : RW t (repRow t r out) :=
  (foldTo_inv (p := fun _ out => RW t out ∧ r < out.length) ⟨h, hr⟩ _ fun c x _ ⟨h1, h2⟩ => ⟨h1.col h2, Nat.lt_of_lt_of_le h2 (repCol_len r c x)⟩).1
theorem reps_way (h : Full g t) (hs : std t 0 = some t) : ∀ j, j < t.length → Way t 0 ((reps t).getD j []) j := by
  have hS := std_iff hs
  have key : ∀ r, r ≤ t.length → RW t (foldTo (repRow t) r [[]]) := fun r => by
    induction r with
    | zero =>
      intro _ j hj
      obtain rfl : j = 0 := by simp [foldTo] at hj; omega
      exact rfl
    | succ r ih =>
      intro hr
      obtain ⟨m, h1, -, h2⟩ := rep_at h.good hS r (by omega)
      exact (ih (by omega)).row (by rw [h2.ol]; exact h1 (by omega))
  intro j hj
  exact key t.length (Nat.le_refl _) j (by
    have := (reps_length h.good hS).1
    unfold reps at this
    omega)
theorem reps_ok (h : Full g t) (j : Nat) : LOk g ((reps t).getD j []) := reps_letter h.good j
theorem reps_len (h : Full g t) (hs : std t 0 = some t) : (reps t).length = t.length := (reps_length h.good (std_iff hs)).1
end
end Go.Proofs.Ct
