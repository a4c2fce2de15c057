/- Orders of groups by a record of an enumeration: how a record is checked, and what it proves; How many cosets live at most, plainly; The laws' presentations: they are valid; what Enumerate answers for them; Representatives lead to their cosets, plainly; The plain law of CosetTower; Permutations of a few points, plainly, for CosetMaps: how letters act on them, orders of words, maps of tables to points; The law's permutations out of numbers, plainly (f63); The plain law of CosetMaps; CosetMaps: the image of a point under a word (f65). -/
import Derived.Test.YtcfighimnkfmeaaCmCS16
import Derived.Test.YtcfighimnkfmeaaCmCS15
import Derived.Test.YtcfighimnkfmeaaCmCS4
import Derived.Test.YtcfighimnkfmeaaCmCS5
namespace Go.Proofs.Ct
/-- rows of numbers of ten bits -/
def gt (a k : Nat) : Nat := Nat.mod (Nat.shiftRight a (Nat.mul 10 k)) 1024
def pt (a k v : Nat) : Nat := Nat.add a (Nat.shiftLeft v (Nat.mul 10 k))
theorem gt_eq (a k : Nat) : gt a k = a / 1024 ^ k % 1024 := by
  show (a >>> (10 * k)) % 1024 = _
  rw [Nat.shiftRight_eq_div_pow, Nat.pow_mul]
theorem pt_eq (a k v : Nat) : pt a k v = a + v * 1024 ^ k := by
  show a + v <<< (10 * k) = _
  rw [Nat.shiftLeft_eq, Nat.pow_mul]
theorem gt_pt {a k v : Nat} (h0 : gt a k = 0) (hv : v < 1024) (j : Nat) : gt (pt a k v) j = if j = k then v else gt a j := by
  rw [gt_eq] at h0
  rw [gt_eq, pt_eq, gt_eq]
  have hk : 0 < 1024 ^ k := Nat.pow_pos (by omega)
  rcases Nat.lt_trichotomy j k with h | h | h
  · rw [if_neg (by omega)]
    obtain ⟨d, rfl⟩ := Nat.exists_eq_add_of_lt h
    have hj : 0 < 1024 ^ j := Nat.pow_pos (by omega)
    have e : v * 1024 ^ (j + d + 1) = (v * 1024 ^ d * 1024) * 1024 ^ j := by
      rw [Nat.pow_succ, Nat.pow_add]
      simp only [Nat.mul_comm, Nat.mul_left_comm]
    rw [e, Nat.add_mul_div_right _ _ hj, Nat.add_mul_mod_self_right]
  · subst h
    rw [if_pos rfl, Nat.add_mul_div_right _ _ hk, Nat.add_mod, h0, Nat.zero_add, Nat.mod_mod, Nat.mod_eq_of_lt hv]
  · rw [if_neg (by omega)]
    obtain ⟨d, rfl⟩ := Nat.exists_eq_add_of_lt h
    have e : 1024 ^ (k + d + 1) = 1024 ^ k * (1024 * 1024 ^ d) := by
      rw [Nat.pow_succ, Nat.pow_add, Nat.mul_assoc, Nat.mul_comm (1024 ^ d)]
    have h1 : (a + v * 1024 ^ k) / 1024 ^ k = a / 1024 ^ k + v := Nat.add_mul_div_right _ _ hk
    have h2 : (a / 1024 ^ k + v) / 1024 = a / 1024 ^ k / 1024 := by omega
    rw [e, ← Nat.div_div_eq_div_mul, ← Nat.div_div_eq_div_mul, ← Nat.div_div_eq_div_mul, ← Nat.div_div_eq_div_mul, h1, h2]
theorem nbeq (a b : Nat) : (Nat.beq a b = true) = (a = b) := propext ⟨Nat.eq_of_beq_eq_true, fun h => by rw [h]; exact Nat.beq_refl b⟩
/-- the record's state: how many names, the edges, the names that are other names -/
structure Cs where
  n : Nat
  E : Nat
  A : Nat
def rpC (A : Nat) : Nat → Nat → Nat
  | 0, x => x
  | k + 1, x => match gt A x with
    | 0 => x
    | y + 1 => rpC A k y
def lkC (s : Cs) (x c : Nat) : Nat := match gt s.E (Nat.add (Nat.mul 8 x) c) with
  | 0 => 0
  | y + 1 => Nat.succ (rpC s.A 20 y)
def wkC (s : Cs) : List Nat → Nat → Nat
  | [], x => Nat.succ x
  | c :: w, x => match lkC s x c with
    | 0 => 0
    | y + 1 => wkC s w y
def alC (s : Cs) (a b : Nat) : Cs := cond (Nat.beq (gt s.A b) 0 && Nat.blt a s.n && Nat.blt b s.n) ⟨s.n, s.E, pt s.A b (Nat.succ a)⟩ s
def algC (s : Cs) (a b : Nat) : Cs := cond (Nat.beq a b) s (cond (Nat.blt a b) (alC s a b) (alC s b a))
def haC (s : Cs) (u c v : Nat) : Cs := match lkC s u c with
  | y + 1 => algC s y v
  | 0 => ⟨s.n, pt s.E (Nat.add (Nat.mul 8 u) c) (Nat.succ v), s.A⟩
def lnC (s : Cs) (u c v : Nat) : Cs := haC (haC s u c v) v (flp c) u
def dfC (m : Nat) (s : Cs) (r c : Nat) : Cs := match lkC s r c with
  | 0 => cond (Nat.blt r s.n && Nat.blt c m && Nat.blt s.n 1000) (lnC ⟨Nat.succ s.n, s.E, s.A⟩ r c s.n) s
  | _ + 1 => s
def bkC (w : List Nat) : List Nat := (w.map flp).reverse
def reC (rs : List (List Nat)) (s : Cs) (r k i : Nat) : Cs := cond (Nat.blt r s.n && Nat.blt k rs.length && Nat.blt i (rs.getD k []).length)
  (match wkC s ((rs.getD k []).take i) r with
  | 0 => s
  | u + 1 => match wkC s (bkC ((rs.getD k []).drop (i + 1))) r with
    | 0 => s
    | v + 1 => lnC s u ((rs.getD k []).getD i 0) v) s
def cpC (s : Cs) (x c : Nat) : Cs := match gt s.E (Nat.add (Nat.mul 8 x) c) with
  | 0 => s
  | d + 1 => cond (Nat.blt c 8) (lnC s (rpC s.A 20 x) c (rpC s.A 20 d)) s
def stC (m : Nat) (rs : List (List Nat)) (i : Nat) (s : Cs) : Cs := match Nat.mod i 4 with
  | 0 => dfC m s (Nat.div i 32) (Nat.mod (Nat.div i 4) 8)
  | 1 => reC rs s (Nat.div i 1024) (Nat.mod (Nat.div i 128) 8) (Nat.mod (Nat.div i 4) 32)
  | _ => cpC s (Nat.div i 32) (Nat.mod (Nat.div i 4) 8)
def runC (m : Nat) (rs : List (List Nat)) : Nat → Nat → Cs → Cs
  | 0, _, s => s
  | k + 1, log, s => runC m rs k (Nat.shiftRight log 20) (stC m rs (Nat.mod log 1048576) s)
/-- what holds of a record's state -/
structure OkC (g : Nat) {α : Type} (D : α → Prop) (act : α → Nat → α) (p0 : α) (s : Cs) (f : Nat → α) : Prop where
  n1 : 1 ≤ s.n
  n2 : s.n ≤ 1000
  f0 : f 0 = p0
  dom : ∀ x, x < s.n → D (f x)
  e : ∀ x c y, c < 8 → gt s.E (8 * x + c) = y + 1 → x < s.n ∧ y < s.n ∧ c < 2 * g ∧ act (f x) c = f y
  a : ∀ x y, gt s.A x = y + 1 → x < s.n ∧ y < s.n ∧ f x = f y
section
variable {g : Nat} {rels : List W} {α : Type} {D : α → Prop} {act : α → Nat → α} {p0 : α} {s : Cs} {f : Nat → α}
theorem OkC.rp (h : OkC g D act p0 s f) : ∀ (k : Nat) {x : Nat}, x < s.n → rpC s.A k x < s.n ∧ f (rpC s.A k x) = f x
  | 0, x, hx => ⟨hx, rfl⟩
  | k + 1, x, hx => by
    rw [rpC]
    cases hg : gt s.A x with
    | zero => exact ⟨hx, rfl⟩
    | succ y =>
      obtain ⟨h1, h2, h3⟩ := h.a x y hg
      obtain ⟨h4, h5⟩ := h.rp k h2
      exact ⟨h4, h5.trans h3.symm⟩
theorem OkC.lk (h : OkC g D act p0 s f) {x c y : Nat} (hc : c < 8) (e : lkC s x c = y + 1) : x < s.n ∧ y < s.n ∧ c < 2 * g ∧ act (f x) c = f y := by
  unfold lkC at e
  cases hg : gt s.E (Nat.add (Nat.mul 8 x) c) with
  | zero => rw [hg] at e; cases e
  | succ z =>
    rw [hg] at e
    obtain ⟨h1, h2, h3, h4⟩ := h.e x c z hc hg
    obtain ⟨h5, h6⟩ := h.rp 20 h2
    have e' : rpC s.A 20 z = y := Nat.succ.inj e
    rw [e'] at h5 h6
    exact ⟨h1, h5, h3, by rw [h4, h6]⟩
theorem lkC_zero {x c : Nat} (e : lkC s x c = 0) : gt s.E (8 * x + c) = 0 := by
  unfold lkC at e
  show gt s.E (Nat.add (Nat.mul 8 x) c) = 0
  cases hg : gt s.E (Nat.add (Nat.mul 8 x) c) with
  | zero => rfl
  | succ z => rw [hg] at e; cases e
theorem OkC.al (h : OkC g D act p0 s f) {a b : Nat} (e : f a = f b) : OkC g D act p0 (alC s a b) f := by
  unfold alC
  cases hc : (Nat.beq (gt s.A b) 0 && Nat.blt a s.n && Nat.blt b s.n) with
  | false => exact h
  | true =>
    simp only [Bool.and_eq_true, nbeq, Nat.blt_eq] at hc
    have hn := h.n2
    refine ⟨h.n1, h.n2, h.f0, h.dom, h.e, fun x y hx => ?_⟩
    show x < s.n ∧ y < s.n ∧ f x = f y
    have hx' : gt (pt s.A b (a + 1)) x = y + 1 := hx
    rw [gt_pt hc.1.1 (by omega)] at hx'
    split at hx'
    · rename_i e1
      have : a = y := by omega
      rw [e1, ← this]
      exact ⟨hc.2, hc.1.2, e.symm⟩
    · exact h.a x y hx'
theorem OkC.alg (h : OkC g D act p0 s f) {a b : Nat} (e : f a = f b) : OkC g D act p0 (algC s a b) f := by
  unfold algC
  cases Nat.beq a b with
  | true => exact h
  | false =>
    cases Nat.blt a b with
    | true => exact h.al e
    | false => exact h.al e.symm
theorem flp8 {c : Nat} (h : c < 8) : flp c < 8 := flp_lt2 (g := 4) h
theorem key_inj {x c y d : Nat} (hc : c < 8) (hd : d < 8) (e : 8 * x + c = 8 * y + d) : x = y ∧ c = d := by omega
theorem OkC.put (h : OkC g D act p0 s f) {u v c : Nat} (hu : u < s.n) (hv : v < s.n) (hc : c < 2 * g) (hc8 : c < 8) (e : act (f u) c = f v) (h1 : gt s.E (8 * u + c) = 0) :
    OkC g D act p0 ⟨s.n, pt s.E (8 * u + c) (v + 1), s.A⟩ f := by
  have hn := h.n2
  have e1 := gt_pt h1 (show v + 1 < 1024 by omega)
  refine ⟨h.n1, h.n2, h.f0, h.dom, fun x k y hk hx => ?_, h.a⟩
  have hx' : gt (pt s.E (8 * u + c) (v + 1)) (8 * x + k) = y + 1 := hx
  rw [e1] at hx'
  show x < s.n ∧ y < s.n ∧ k < 2 * g ∧ act (f x) k = f y
  split at hx'
  · rename_i e2
    obtain ⟨rfl, rfl⟩ := key_inj hk hc8 e2
    have : y = v := by omega
    rw [this]
    exact ⟨hu, hv, hc, e⟩
  · exact h.e x k y hk hx'
theorem n_al (s : Cs) (a b : Nat) : (alC s a b).n = s.n := by unfold alC; cases (Nat.beq (gt s.A b) 0 && Nat.blt a s.n && Nat.blt b s.n) <;> rfl
theorem n_alg (s : Cs) (a b : Nat) : (algC s a b).n = s.n := by
  unfold algC
  cases Nat.beq a b with
  | true => rfl
  | false =>
    cases Nat.blt a b with
    | true => exact n_al s a b
    | false => exact n_al s b a
theorem n_ha (s : Cs) (u c v : Nat) : (haC s u c v).n = s.n := by
  unfold haC
  cases lkC s u c with
  | zero => rfl
  | succ y => exact n_alg s y v
theorem OkC.ha (h : OkC g D act p0 s f) {u v c : Nat} (hu : u < s.n) (hv : v < s.n) (hc : c < 2 * g) (hc8 : c < 8) (e : act (f u) c = f v) : OkC g D act p0 (haC s u c v) f := by
  unfold haC
  cases h1 : lkC s u c with
  | succ y =>
    obtain ⟨-, -, -, h2⟩ := h.lk hc8 h1
    exact h.alg (by rw [← h2, e])
  | zero => exact h.put hu hv hc hc8 e (lkC_zero h1)
theorem OkC.ln (h : OkC g D act p0 s f) (hM : Mdl g rels D act) {u v c : Nat} (hu : u < s.n) (hv : v < s.n) (hc : c < 2 * g) (hc8 : c < 8) (e : act (f u) c = f v) : OkC g D act p0 (lnC s u c v) f := by
  have h1 := h.ha hu hv hc hc8 e
  have hn := n_ha s u c v
  exact h1.ha (by rw [hn]; exact hv) (by rw [hn]; exact hu) (flp_lt2 hc) (flp8 hc8) (by rw [← e]; exact hM.inv _ _ (h.dom u hu) hc)
theorem OkC.df (h : OkC g D act p0 s f) (hM : Mdl g rels D act) (hg : 2 * g ≤ 8) (r c : Nat) : ∃ f', OkC g D act p0 (dfC (2 * g) s r c) f' := by
  unfold dfC
  cases h1 : lkC s r c with
  | succ y => exact ⟨f, h⟩
  | zero =>
    simp only
    cases hc : (Nat.blt r s.n && Nat.blt c (2 * g) && Nat.blt s.n 1000) with
    | false => exact ⟨f, h⟩
    | true =>
      simp only [Bool.and_eq_true, Nat.blt_eq] at hc
      obtain ⟨⟨h2, h3⟩, h4⟩ := hc
      have hn1 := h.n1
      refine ⟨fun x => if x = s.n then act (f r) c else f x, ?_⟩
      have h5 : OkC g D act p0 ⟨s.n + 1, s.E, s.A⟩ (fun x => if x = s.n then act (f r) c else f x) := by
        refine ⟨by show 1 ≤ s.n + 1; omega, by show s.n + 1 ≤ 1000; omega, by rw [if_neg (by omega)]; exact h.f0, fun x hx => ?_, fun x k y hk hx => ?_, fun x y hx => ?_⟩
        · have hx' : x < s.n + 1 := hx
          split
          · exact hM.cl _ _ (h.dom r h2) h3
          · exact h.dom x (by omega)
        · obtain ⟨a, b, c', d⟩ := h.e x k y hk hx
          rw [if_neg (by omega), if_neg (by omega)]
          exact ⟨Nat.lt_succ_of_lt a, Nat.lt_succ_of_lt b, c', d⟩
        · obtain ⟨a, b, c'⟩ := h.a x y hx
          rw [if_neg (by omega), if_neg (by omega)]
          exact ⟨Nat.lt_succ_of_lt a, Nat.lt_succ_of_lt b, c'⟩
      exact h5.ln hM (u := r) (v := s.n) (c := c) (by show r < s.n + 1; omega) (by show s.n < s.n + 1; omega) h3 (by omega) (by rw [if_neg (by omega), if_pos rfl])
theorem actW_cols (w : W) : ∀ p : α, actW act p w = (w.map col).foldl act p := by
  induction w with
  | nil => intro p; rfl
  | cons l w ih => intro p; exact ih _
theorem OkC.wk (h : OkC g D act p0 s f) (hg : 2 * g ≤ 8) : ∀ {w : List Nat} {x y : Nat}, (∀ c ∈ w, c < 2 * g) → x < s.n → wkC s w x = y + 1 → y < s.n ∧ w.foldl act (f x) = f y := by
  intro w
  induction w with
  | nil =>
    intro x y _ hx e
    have e' : x = y := Nat.succ.inj e
    rw [← e']; exact ⟨hx, rfl⟩
  | cons c w ih =>
    intro x y hw hx e
    rw [wkC] at e
    have hc := hw c (List.mem_cons_self ..)
    cases h1 : lkC s x c with
    | zero => rw [h1] at e; cases e
    | succ z =>
      rw [h1] at e
      obtain ⟨-, h2, -, h3⟩ := h.lk (by omega) h1
      rw [List.foldl_cons, h3]
      exact ih (fun c hc => hw c (List.mem_cons_of_mem _ hc)) h2 e
theorem fold_bk (hM : Mdl g rels D act) : ∀ {w : List Nat} {p : α}, (∀ c ∈ w, c < 2 * g) → D p → (bkC w).foldl act (w.foldl act p) = p := by
  intro w
  induction w with
  | nil => intro p _ _; rfl
  | cons c w ih =>
    intro p hw hp
    have hc := hw c (List.mem_cons_self ..)
    have e : bkC (c :: w) = bkC w ++ [flp c] := by simp [bkC]
    rw [e, List.foldl_append, List.foldl_cons (l := w), List.foldl_cons, ih (fun c hc => hw c (List.mem_cons_of_mem _ hc)) (hM.cl _ _ hp hc)]
    exact hM.inv _ _ hp hc
theorem mem_bk {w : List Nat} (h : ∀ c ∈ w, c < 2 * g) : ∀ c ∈ bkC w, c < 2 * g := fun c hc => by
  unfold bkC at hc
  obtain ⟨d, hd, rfl⟩ := List.mem_map.1 (List.mem_reverse.1 hc)
  exact flp_lt2 (h d hd)
theorem OkC.re (h : OkC g D act p0 s f) (hM : Mdl g rels D act) (hg : 2 * g ≤ 8) {rs : List (List Nat)} (hrs : rs = rels.map fun w => w.map col) (hr : ∀ j, j < rels.length → LOk g (rels.getD j [])) (r k i : Nat) : OkC g D act p0 (reC rs s r k i) f := by
  unfold reC
  cases hc : (Nat.blt r s.n && Nat.blt k rs.length && Nat.blt i (rs.getD k []).length) with
  | false => exact h
  | true =>
    simp only [Bool.and_eq_true, Nat.blt_eq] at hc
    obtain ⟨⟨h1, h2⟩, h3⟩ := hc
    simp only [cond_true]
    have hk : k < rels.length := by rw [hrs, List.length_map] at h2; exact h2
    have hw : rs.getD k [] = (rels.getD k []).map col := by rw [hrs]; simp [List.getD_eq_getElem?_getD, hk]
    have hall : ∀ c ∈ rs.getD k [], c < 2 * g := fun c hc => by
      rw [hw] at hc
      obtain ⟨l, hl, rfl⟩ := List.mem_map.1 hc
      exact col_ltL (hr k hk l hl)
    have hcl : (rs.getD k []).foldl act (f r) = f r := by
      rw [hw, ← actW_cols]
      exact hM.rel _ k (h.dom r h1) hk
    generalize rs.getD k [] = w at *
    cases h4 : wkC s (w.take i) r with
    | zero => exact h
    | succ u =>
      simp only
      cases h5 : wkC s (bkC (w.drop (i + 1))) r with
      | zero => exact h
      | succ v =>
        simp only
        have hd : ∀ c ∈ w.drop (i + 1), c < 2 * g := fun c hc => hall c (List.mem_of_mem_drop hc)
        obtain ⟨h6, h7⟩ := h.wk hg (fun c hc => hall c (List.mem_of_mem_take hc)) h1 h4
        obtain ⟨h8, h9⟩ := h.wk hg (mem_bk hd) h1 h5
        have hci : w.getD i 0 < 2 * g := by
          rw [List.getD_eq_getElem?_getD, List.getElem?_eq_getElem h3]
          exact hall _ (List.getElem_mem h3)
        refine h.ln hM h6 h8 hci (by omega) ?_
        have e : w = w.take i ++ w.getD i 0 :: w.drop (i + 1) := by
          rw [List.getD_eq_getElem?_getD, List.getElem?_eq_getElem h3]
          simp
        rw [e, List.foldl_append, List.foldl_cons, h7] at hcl
        have hD1 : D (act (f u) (w.getD i 0)) := hM.cl _ _ (h.dom u h6) hci
        rw [← fold_bk hM hd hD1, hcl, h9]
theorem OkC.cp (h : OkC g D act p0 s f) (hM : Mdl g rels D act) (x c : Nat) : OkC g D act p0 (cpC s x c) f := by
  unfold cpC
  cases h1 : gt s.E (Nat.add (Nat.mul 8 x) c) with
  | zero => exact h
  | succ d =>
    simp only
    cases h2 : Nat.blt c 8 with
    | false => exact h
    | true =>
      rw [Nat.blt_eq] at h2
      obtain ⟨h3, h4, h5, h6⟩ := h.e x c d h2 h1
      obtain ⟨h7, h8⟩ := h.rp 20 h3
      obtain ⟨h9, h10⟩ := h.rp 20 h4
      exact h.ln hM h7 h9 h5 h2 (by rw [h8, h10]; exact h6)
theorem OkC.run (hM : Mdl g rels D act) (hg : 2 * g ≤ 8) {rs : List (List Nat)} (hrs : rs = rels.map fun w => w.map col) (hr : ∀ j, j < rels.length → LOk g (rels.getD j [])) : ∀ (k log : Nat) {s : Cs} {f : Nat → α}, OkC g D act p0 s f → ∃ f', OkC g D act p0 (runC (2 * g) rs k log s) f'
  | 0, _, _, f, h => ⟨f, h⟩
  | k + 1, log, s, f, h => by
    rw [runC]
    have h1 : ∃ f', OkC g D act p0 (stC (2 * g) rs (Nat.mod log 1048576) s) f' := by
      unfold stC
      split
      · exact h.df hM hg _ _
      · exact ⟨f, h.re hM hg hrs hr _ _ _⟩
      · exact ⟨f, h.cp hM _ _⟩
    obtain ⟨f1, h2⟩ := h1
    exact OkC.run hM hg hrs hr k _ h2
end
end Go.Proofs.Ct
namespace Go.Proofs.Ct
def MI (s : St) : Prop := s.live ≤ s.most ∧ s.most ≤ s.t.length
section
variable {g lim : Nat} {s s1 : St} {rels sub : List W}
theorem live_le (h : Rest g s) (h1 : Rest g s1) (he : Ext g s s1) (hn : s1.t.length = s.t.length) : s1.live ≤ s.live := by
  have a := h.lv
  have b := h1.lv
  have hd : dc s ≤ dc s1 := by
    unfold dc
    rw [hn]
    refine List.countP_mono_left fun x hx hp => ?_
    have hx' : x < s.t.length := by simpa using hx
    have h2 : s.rp x ≠ x := by simpa using hp
    have h3 := h.inv.rle x hx'
    have h4 := he.coarse x hx'
    have h5 := h1.inv.rle (s.rp x) (by rw [hn]; exact h.inv.rlt hx')
    have : s1.rp x ≠ x := by omega
    simpa using this
  omega
theorem MI.ext (hm : MI s) (h : Rest g s) (h1 : Rest g s1) (he : Ext g s s1) (hn : s1.t.length = s.t.length) (hmo : s1.most = s.most) : MI s1 := by
  have := live_le h h1 he hn
  unfold MI at hm ⊢
  omega
theorem MI.defn (hm : MI s) (h : Rest g s) (r c : Nat) : MI (defS (2 * g) s r c) := by
  have hl := length_def (s := s) (2 * g) r c
  have h1 : (defS (2 * g) s r c).live = s.live + 1 := rfl
  have h2 : (defS (2 * g) s r c).most = max s.most (s.live + 1) := rfl
  have := h.lv
  unfold MI at hm ⊢
  omega
theorem fillF_mi : ∀ (fuel : Nat) {s : St}, Good g lim s → MI s → ∀ {r : Nat}, r < s.t.length → s.rp r = r → ∀ {w : W}, LOk g w → ∀ s', fillF (2 * g) lim fuel s r w = some s' → MI s'
  | 0, _, _, _, _, _, _, _, _, s', e => by cases e
  | fuel + 1, s, h, hm, r, hr, hl, w, hw, s', e => by
    obtain ⟨a, b⟩ := scan_rest h.rest hr hl hw
    unfold fillF at e
    cases hsc : scanS (2 * g) s r w with
    | mk s2 o =>
      rw [hsc] at e
      cases o with
      | none =>
        simp only at e
        cases e
        obtain ⟨h1, h2, h3, h4⟩ := a s' hsc
        exact hm.ext h.rest h1 h2 h3 h4
      | some fc =>
        obtain ⟨f, c⟩ := fc
        simp only at e
        obtain ⟨-, h2, h3, h4, h5⟩ := b _ _ _ hsc
        split at e
        · cases e
        · rename_i hne
          obtain ⟨k1, k2⟩ := h.defn h2 h3 h4 h5 (by have := h.n2; omega)
          have hn := length_def (s := s) (2 * g) f c
          exact fillF_mi fuel k1 (hm.defn h.rest f c) (r := r) (by omega) (by rw [rp_def_old h.rest.inv _ _ _ hr]; exact hl) hw s' e
theorem run_mi (hg : 1 ≤ lim) (hr : ∀ j, j < rels.length → LOk g (rels.getD j [])) (hs : ∀ j, j < sub.length → LOk g (sub.getD j [])) {s' : St} (e : runS (2 * g) lim rels sub = some s') : MI s' := by
  unfold runS at e
  cases hx : optTo (subS (2 * g) lim sub) sub.length (startS (2 * g)) with
  | none => rw [hx] at e; cases e
  | some x =>
    rw [hx] at e
    have hst : (startS (2 * g)).t.length = 1 := by unfold startS; rw [length_add]; rfl
    have h0 : MI (startS (2 * g)) := by
      have h1 : (startS (2 * g)).live = 1 := rfl
      have h2 : (startS (2 * g)).most = 1 := rfl
      unfold MI
      omega
    obtain ⟨hG, hm⟩ := optTo_inv (p := fun _ s => Good g lim s ∧ MI s) ⟨start_good hg, h0⟩ sub.length (fun i x y hi ⟨hx, hm⟩ hy => by
      have hl := rp_zero hx.rest hx.n1
      exact ⟨(fill_good hx hx.n1 hl (getD_all hs LOk.nil i) hy).1, fillF_mi _ hx hm hx.n1 hl (getD_all hs LOk.nil i) _ hy⟩) x hx
    exact (optTo_inv (p := fun _ s => Good g lim s ∧ MI s) ⟨hG, hm⟩ lim (fun r x y _ ⟨hx, hm⟩ hy => by
      unfold rowsS at hy
      split at hy
      · rename_i hlt
        unfold rowS at hy
        cases hz : optTo (relS (2 * g) lim rels r) rels.length x with
        | none => rw [hz] at hy; cases hy
        | some z =>
          rw [hz] at hy
          obtain ⟨⟨hzG, hzE⟩, hzm⟩ := optTo_inv (p := fun _ y => (Good g lim y ∧ Ext g x y) ∧ MI y) ⟨⟨hx, Ext.refl hx.rest⟩, hm⟩ rels.length (fun i y v hi ⟨⟨hy1, hy2⟩, hm⟩ hv => by
            have hry : r < y.t.length := Nat.lt_of_lt_of_le hlt hy2.n
            unfold relS at hv
            split at hv
            · rename_i hl
              obtain ⟨a, b⟩ := fill_good hy1 hry hl (getD_all hr LOk.nil i) hv
              exact ⟨⟨a, hy2.trans hx.rest hy1.rest b⟩, fillF_mi _ hy1 hm hry hl (getD_all hr LOk.nil i) _ hv⟩
            · cases hv
              exact ⟨⟨hy1, hy2⟩, hm⟩) z hz
          obtain ⟨⟨hyG, hyE⟩, hym⟩ := optTo_inv (p := fun _ y => (Good g lim y ∧ Ext g z y) ∧ MI y) ⟨⟨hzG, Ext.refl hzG.rest⟩, hzm⟩ (2 * g) (fun c y v hc ⟨⟨hy1, hy2⟩, hm⟩ hv => by
            have hry : r < y.t.length := Nat.lt_of_lt_of_le hlt (Nat.le_trans hzE.n hy2.n)
            unfold colS at hv
            split at hv
            · rename_i hl
              split at hv
              · cases hv
              · rename_i hne
                cases hv
                obtain ⟨a, b⟩ := hy1.defn hry hc hl.1 hl.2 (by have := hy1.n2; omega)
                exact ⟨⟨a, hy2.trans hzG.rest hy1.rest b⟩, hm.defn hy1.rest r c⟩
            · cases hv
              exact ⟨⟨hy1, hy2⟩, hm⟩) y hy
          exact ⟨hyG, hym⟩
      · cases hy
        exact ⟨hx, hm⟩) s' e).2
theorem livTo_dc (s : St) : ∀ n, (livTo s n).length + (List.range n).countP (fun x => decide (s.rp x ≠ x)) = n
  | 0 => rfl
  | n + 1 => by
    have ih := livTo_dc s n
    rw [livTo_succ, List.range_succ, List.countP_append]
    by_cases h : s.rp n = n
    · rw [if_pos h]; simp [h]; simp at ih; omega
    · rw [if_neg h]; simp [h]; simp at ih; omega
theorem liv_live (h : Rest g s) : ((liv s).length : Int) = s.live := by
  have h1 := h.lv
  have h2 := livTo_dc s s.t.length
  have h3 : (liv s).length + dc s = s.t.length := h2
  omega
end
end Go.Proofs.Ct
namespace Go.Proofs
open Go.RowKit Go.Shelf Go.Proofs.Ct Go.Maps
theorem letBad_ok {g : Nat} {w : W} (h : LOk g w) : w.any (letBad g) = false := by
  rw [List.any_eq_false]
  intro x hx
  have := h x hx
  unfold letBad
  simp
  omega
theorem sumTo_short {l : List W} {m : Nat} (h : ∀ j, (l.getD j []).length ≤ m) : ∀ k, sumTo l k ≤ k * m
  | 0 => by simp [sumTo, foldTo]
  | k + 1 => by
    have := sumTo_short h k
    have := h k
    show sumTo l k + (l.getD k []).length ≤ (k + 1) * m
    rw [Nat.add_mul]
    omega
/-- words in g generators, few and short -/
structure Wds (g : Nat) (l : List W) (n m : Nat) : Prop where
  len : l.length ≤ n
  short : ∀ j, (l.getD j []).length ≤ m
  ok : ∀ j, j < l.length → LOk g (l.getD j [])
theorem Wds.pres {g n m : Nat} {l : List W} (h : Wds g l n m) (hg : 1 ≤ g ∧ g ≤ 16) (hn : n ≤ 100) (hnm : n * m ≤ 4000) : presE g l = 0 := by
  refine presE_none hg (Nat.le_trans h.len hn) fun j hj => ?_
  unfold presBad
  have h1 := sumTo_short h.short (j + 1)
  have h2 : (j + 1) * m ≤ n * m := Nat.mul_le_mul_right _ (by have := h.len; omega)
  rw [if_neg (by omega), if_neg (by rw [letBad_ok (h.ok j hj)]; simp)]
theorem Wds.good {g n m : Nat} {l : List W} (h : Wds g l n m) (hn : n ≤ 100) (hnm : n * m ≤ 4000) {lim : Nat} (hl : 1 ≤ lim ∧ lim ≤ 20000) : badArgs g l (lim : Int) = false := by
  have h1 := sumTo_short h.short l.length
  have h2 : l.length * m ≤ n * m := Nat.mul_le_mul_right _ h.len
  have h3 := h.len
  have h4 : (l.any fun w => w.any (letBad g)) = false := by
    rw [List.any_eq_false]
    intro w hw
    obtain ⟨j, hj, rfl⟩ := List.mem_iff_getElem.1 hw
    have := h.ok j hj
    rw [List.getD_eq_getElem?_getD, List.getElem?_eq_getElem hj] at this
    have h5 := letBad_ok this
    simp only [Option.getD_some] at h5
    rw [h5]; simp
  unfold badArgs
  rw [h4]
  simp only [Bool.or_false, Bool.or_eq_false_iff, decide_eq_false_iff_not]
  omega
theorem mem_wordsTo {g most : Nat} (hg : 1 ≤ g) : ∀ (f : Nat) (l : List Int), ∀ w ∈ wordsTo g most f l, w.length ≤ most ∧ LOk g w
  | 0, _, w, h => by simp [wordsTo] at h
  | _ + 1, [], w, h => by simp [wordsTo] at h
  | f + 1, x :: l, w, h => by
    rw [wordsTo] at h
    rcases List.mem_cons.1 h with rfl | h
    · refine ⟨?_, fun y hy => ?_⟩
      · rw [length_wordOf, List.length_take]
        have := Int.emod_lt_of_pos x (show (0 : Int) < ((most + 1 : Nat) : Int) by omega)
        have := Int.emod_nonneg x (show ((most + 1 : Nat) : Int) ≠ 0 by omega)
        omega
      · unfold wordOf at hy
        obtain ⟨z, -, rfl⟩ := List.mem_map.1 hy
        have h1 := Int.emod_lt_of_pos z (show (0 : Int) < ((2 * g : Nat) : Int) by omega)
        have h2 := Int.emod_nonneg z (show ((2 * g : Nat) : Int) ≠ 0 by omega)
        exact letter_range (by omega)
    · exact mem_wordsTo hg f _ w h
theorem wds_of_mem {g n m : Nat} {l : List W} (hn : l.length ≤ n) (h : ∀ w ∈ l, w.length ≤ m ∧ LOk g w) : Wds g l n m := by
  refine ⟨hn, fun j => ?_, fun j hj => ?_⟩
  · rw [List.getD_eq_getElem?_getD]
    rcases Nat.lt_or_ge j l.length with hj | hj
    · rw [List.getElem?_eq_getElem hj]; exact (h _ (List.getElem_mem hj)).1
    · rw [List.getElem?_eq_none hj]; exact Nat.zero_le _
  · rw [List.getD_eq_getElem?_getD, List.getElem?_eq_getElem hj]
    exact (h _ (List.getElem_mem hj)).2
theorem wds_law {g : Nat} (hg : 1 ≤ g) (m : Nat) (l : List Int) : Wds g (lawWords g m l) m 12 := wds_of_mem (by unfold lawWords; rw [List.length_take]; omega) fun w hw => mem_wordsTo hg _ _ w (List.mem_of_mem_take hw)
section
variable {g n m n' m' lim : Nat} {rels sub : List W}
/-- what Enumerate answers: no room, or a coset table that any greater limit gives as well -/
structure EnumT (g : Nat) (rels sub : List W) (lim : Nat) (t : Tb) (d k : Nat) : Prop where
  coset : Coset g rels sub t
  n1 : 1 ≤ t.length
  live : t.length ≤ k
  most : k ≤ d
  room : d ≤ lim
  is : ∀ lim', d ≤ lim' → lim' ≤ 20000 → enumE g rels sub (lim' : Int) = (t, ((d : Int), (k : Int)), 0)
  less : ∀ lim', 1 ≤ lim' → lim' < d → enumE g rels sub (lim' : Int) = ([], (0, 0), 12)
theorem enum_cases (hg : 1 ≤ g ∧ g ≤ 16) (hp : presE g rels = 0) (hr : ∀ j, j < rels.length → LOk g (rels.getD j [])) (hs : ∀ j, j < sub.length → LOk g (sub.getD j [])) (hb : ∀ lim' : Nat, 1 ≤ lim' → lim' ≤ 20000 → badArgs g sub (lim' : Int) = false) (hl : 1 ≤ lim ∧ lim ≤ 20000) :
    enumE g rels sub (lim : Int) = ([], (0, 0), 12) ∨ ∃ t d k, EnumT g rels sub lim t d k := by
  cases hx : runS (2 * g) lim rels sub with
  | none => exact .inl (enumE_full hp (hb lim hl.1 hl.2) hx)
  | some s =>
    right
    obtain ⟨hG, -⟩ := run_good hl.1 hr hs hx
    obtain ⟨h1, h2, h3⟩ := coset_of_run hg.1 hg.2 hl.2 hl.1 hr hs hx
    obtain ⟨m1, m2⟩ := run_mi hl.1 hr hs hx
    have hlv := liv_live hG.rest
    have hm0 := hG.m0
    refine ⟨stdT (tabS s) 0, s.t.length, s.most.toNat, h1, h1.full.good.n1, by rw [h3]; omega, by omega, hG.n2, fun lim' ha hb' => ?_, fun lim' ha hb' => ?_⟩
    · have hn1 := hG.n1
      have h4 := run_mono hl.1 hr hs hx ha
      rw [enumE_some hp (hb lim' (by omega) hb') h4, h2, show ((s.most.toNat : Nat) : Int) = s.most by omega]
    · have hn2 := hG.n2
      exact enumE_full hp (hb lim' ha (by omega)) (run_less hl.1 hr hs hx ha hb')
theorem Ct.Coset.holdsE {t : Tb} (h : Coset g rels sub t) (hp : presE g rels = 0) (hs : ∀ j, j < sub.length → LOk g (sub.getD j [])) : Go.Proofs.holdsE g rels sub t = (true, 0) := by
  have h4 : (sub.any fun w => w.any (letBad g)) = false := by
    rw [List.any_eq_false]
    intro w hw
    obtain ⟨j, hj, rfl⟩ := List.mem_iff_getElem.1 hw
    have := hs j hj
    rw [List.getD_eq_getElem?_getD, List.getElem?_eq_getElem hj] at this
    have h5 := letBad_ok this
    simp only [Option.getD_some] at h5
    rw [h5]; simp
  unfold Go.Proofs.holdsE
  rw [if_neg (by rw [hp]; simp), Int.toNat_natCast, if_neg (by rw [h4]; simp), check_of_good h.full.good, if_neg (by simp), h.holds]
end
end Go.Proofs
namespace Go.Proofs.Ct
theorem col_letter (c : Nat) : col (letter c) = c := by
  unfold col letter
  split <;> split <;> omega
def RW (t : Tb) (out : List W) : Prop := ∀ j, j < out.length → Way t 0 (out.getD j []) j
section
variable {g : Nat} {t : Tb}
theorem repCol_len (r c : Nat) (out : List W) : out.length ≤ (repCol t r c out).length := by
  unfold repCol
  split
  · simp
  · exact Nat.le_refl _
theorem RW.col {out : List W} (h : RW t out) {r c : Nat} (hr : r < out.length) : RW t (repCol t r c out) := by
  unfold repCol
  split
  · rename_i he
    intro j hj
    rcases Nat.lt_or_ge j out.length with h1 | h1
    · have : (out ++ [out.getD r [] ++ [letter c]]).getD j [] = out.getD j [] := by simp [List.getD_eq_getElem?_getD, List.getElem?_append_left h1]
      rw [this]
      exact h j h1
    · obtain rfl : j = out.length := by simp at hj; omega
      have : (out ++ [out.getD r [] ++ [letter c]]).getD out.length [] = out.getD r [] ++ [letter c] := by simp [List.getD_eq_getElem?_getD]
      rw [this]
      refine way_app.2 ⟨r, h r hr, way_one.2 ?_⟩
      unfold Edge
      rw [col_letter]
      exact he
  · exact h
theorem RW.row {out : List W} (h : RW t out) {r : Nat} (hr : r < out.length) : RW t (repRow t r out) :=
  (foldTo_inv (p := fun _ out => RW t out ∧ r < out.length) ⟨h, hr⟩ _ fun c x _ ⟨h1, h2⟩ => ⟨h1.col h2, Nat.lt_of_lt_of_le h2 (repCol_len r c x)⟩).1
theorem reps_way (h : Full g t) (hs : std t 0 = some t) : ∀ j, j < t.length → Way t 0 ((reps t).getD j []) j := by
  have hS := std_iff hs
  have key : ∀ r, r ≤ t.length → RW t (foldTo (repRow t) r [[]]) := fun r => by
    induction r with
    | zero =>
      intro _ j hj
      obtain rfl : j = 0 := by simp [foldTo] at hj; omega
      exact rfl
    | succ r ih =>
      intro hr
      obtain ⟨m, h1, -, h2⟩ := rep_at h.good hS r (by omega)
      exact (ih (by omega)).row (by rw [h2.ol]; exact h1 (by omega))
  intro j hj
  exact key t.length (Nat.le_refl _) j (by
    have := (reps_length h.good hS).1
    unfold reps at this
    omega)
theorem reps_ok (h : Full g t) (j : Nat) : LOk g ((reps t).getD j []) := reps_letter h.good j
theorem reps_len (h : Full g t) (hs : std t 0 = some t) : (reps t).length = t.length := (reps_length h.good (std_iff hs)).1
end
end Go.Proofs.Ct
namespace Go.Proofs
open Go.RowKit Go.Shelf Go.Proofs.Ct Go.Maps
section
variable {g : Nat} {rels sub : List W} {t u : Tb}
theorem repsE_full (h : Full g t) (hs : std t 0 = some t) : repsE g t = (reps t, 0) := by
  unfold repsE
  rw [check_of_good h.good, if_neg (by simp), if_pos hs]
theorem getD_append_left {l m : List W} {j : Nat} (h : j < l.length) : (l ++ m).getD j [] = l.getD j [] := by simp [List.getD_eq_getElem?_getD, List.getElem?_append_left h]
end
end Go.Proofs
namespace Go.Proofs.Ct
structure Prm (d : Nat) (a : List Nat) : Prop where
  len : a.length = d
  nd : a.Nodup
  lt : ∀ x ∈ a, x < d
section
variable {d : Nat} {a b : List Nat}
theorem getD_mem0 {l : List Nat} {x : Nat} (h : x < l.length) : l.getD x 0 ∈ l := by
  rw [List.getD_eq_getElem?_getD, List.getElem?_eq_getElem h]
  exact List.getElem_mem h
theorem Prm.get_lt (h : Prm d a) {x : Nat} (hx : x < d) : a.getD x 0 < d := h.lt _ (getD_mem0 (by rw [h.len]; exact hx))
theorem Prm.inj (h : Prm d a) {x y : Nat} (hx : x < d) (hy : y < d) (e : a.getD x 0 = a.getD y 0) : x = y := by
  have hx' : x < a.length := by rw [h.len]; exact hx
  have hy' : y < a.length := by rw [h.len]; exact hy
  rw [List.getD_eq_getElem?_getD, List.getElem?_eq_getElem hx', List.getD_eq_getElem?_getD, List.getElem?_eq_getElem hy'] at e
  have hp := List.pairwise_iff_getElem.1 h.nd
  simp only [Option.getD_some] at e
  rcases Nat.lt_trichotomy x y with hc | hc | hc
  · exact absurd e (hp x y hx' hy' hc)
  · exact hc
  · exact absurd e.symm (hp y x hy' hx' hc)
theorem Prm.surj (h : Prm d a) {x : Nat} (hx : x < d) : x ∈ a := by
  by_cases hm : x ∈ a
  · exact hm
  · have h1 := len_le_of_sub (a := x :: a) (b := List.range d) (List.nodup_cons.2 ⟨hm, h.nd⟩) (fun y hy => by
      rcases List.mem_cons.1 hy with rfl | hy
      · exact List.mem_range.2 hx
      · exact List.mem_range.2 (h.lt y hy))
    rw [List.length_cons, List.length_range, h.len] at h1
    omega
theorem Prm.back (h : Prm d a) {x : Nat} (hx : x < d) : a.idxOf x < d ∧ a.getD (a.idxOf x) 0 = x := by
  have h1 := List.idxOf_lt_length_of_mem (h.surj hx)
  refine ⟨by rw [h.len] at h1; exact h1, ?_⟩
  rw [List.getD_eq_getElem?_getD, List.getElem?_eq_getElem h1]
  exact List.getElem_idxOf h1
theorem Prm.back_get (h : Prm d a) {x : Nat} (hx : x < d) : a.idxOf (a.getD x 0) = x := by
  obtain ⟨h1, h2⟩ := h.back (h.get_lt hx)
  exact h.inj h1 hx h2
/-- how column c moves a point -/
def act2 (a b : List Nat) (p c : Nat) : Nat := if c = 0 then a.getD p 0 else if c = 1 then a.idxOf p else if c = 2 then b.getD p 0 else b.idxOf p
theorem act2_lt (ha : Prm d a) (hb : Prm d b) (p c : Nat) (hp : p < d) : act2 a b p c < d := by
  unfold act2
  split
  · exact ha.get_lt hp
  · split
    · exact (ha.back hp).1
    · split
      · exact hb.get_lt hp
      · exact (hb.back hp).1
theorem act2_inv (ha : Prm d a) (hb : Prm d b) (p c : Nat) (hp : p < d) (hc : c < 2 * 2) : act2 a b (act2 a b p c) (flp c) = p := by
  have h4 : c = 0 ∨ c = 1 ∨ c = 2 ∨ c = 3 := by omega
  rcases h4 with rfl | rfl | rfl | rfl
  · exact ha.back_get hp
  · exact (ha.back hp).2
  · exact hb.back_get hp
  · exact (hb.back hp).2
/-- the permutations as a model, of whatever relators hold -/
theorem act2_mdl (ha : Prm d a) (hb : Prm d b) {rels : List W} (h : ∀ x, x < d → ∀ j, j < rels.length → actW (act2 a b) x (rels.getD j []) = x) : Mdl 2 rels (fun x => x < d) (act2 a b) :=
  ⟨fun p c hp _ => act2_lt ha hb p c hp, fun p c hp hc => act2_inv ha hb p c hp hc, fun p i hp hi => h p hp i hi⟩
theorem act2_none (ha : Prm d a) (hb : Prm d b) : Mdl 2 [] (fun x => x < d) (act2 a b) := act2_mdl ha hb fun _ _ j hj => absurd hj (by simp)
/-- f again and again -/
def itf (f : Nat → Nat) : Nat → Nat → Nat
  | 0, x => x
  | n + 1, x => f (itf f n x)
def wpow (w : W) : Nat → W
  | 0 => []
  | n + 1 => wpow w n ++ w
theorem length_wpow (w : W) : ∀ n, (wpow w n).length = n * w.length
  | 0 => by simp [wpow]
  | n + 1 => by rw [wpow, List.length_append, length_wpow w n, Nat.succ_mul]
theorem wpow_ok {g : Nat} {w : W} (h : LOk g w) : ∀ n, LOk g (wpow w n)
  | 0 => fun x hx => by simp [wpow] at hx
  | n + 1 => fun x hx => by
    rw [wpow] at hx
    rcases List.mem_append.1 hx with hx | hx
    · exact wpow_ok h n x hx
    · exact h x hx
theorem act_wpow (act : Nat → Nat → Nat) (w : W) : ∀ (n x : Nat), actW act x (wpow w n) = itf (fun y => actW act y w) n x
  | 0, _ => rfl
  | n + 1, x => by rw [wpow, actW_app, act_wpow act w n x]; rfl
/-- all permutations of d points have an order of at most six: looked through -/
def okO (d : Nat) (l : List Nat) : Bool := (List.range 6).any fun n => (List.range d).all fun x => itf (fun y => l.getD y 0) (n + 1) x == x
def allP (d : Nat) : Nat → List Nat → Bool
  | 0, pre => okO d pre
  | k + 1, pre => (List.range d).all fun x => pre.contains x || allP d k (pre ++ [x])
theorem allP_spec : ∀ (k : Nat) (pre l : List Nat), allP d k pre = true → l.length = k → (pre ++ l).Nodup → (∀ x ∈ l, x < d) → okO d (pre ++ l) = true
  | 0, pre, l, h, hl, _, _ => by
    obtain rfl := List.length_eq_zero_iff.1 hl
    rw [List.append_nil]
    exact h
  | k + 1, pre, l, h, hl, hn, hd => by
    match l, hl with
    | x :: l, hl =>
      rw [allP, List.all_eq_true] at h
      have h1 := h x (List.mem_range.2 (hd x (by simp)))
      rw [Bool.or_eq_true] at h1
      rcases h1 with h1 | h1
      · exfalso
        have h2 : x ∈ pre := by simpa using h1
        have h3 := (List.nodup_append.1 hn).2.2 x h2 x (by simp)
        exact h3 rfl
      · have h2 := allP_spec k (pre ++ [x]) l h1 (by simpa using hl) (by simpa using hn) (fun y hy => hd y (by simp [hy]))
        simpa using h2
set_option maxRecDepth 100000 in
theorem allP_six : (List.range 7).all (fun d => allP d d []) = true := by decide +kernel
theorem itf_congr {f h : Nat → Nat} (hf : ∀ x, x < d → f x < d) (e : ∀ x, x < d → f x = h x) : ∀ (n x : Nat), x < d → itf f n x = itf h n x ∧ itf f n x < d
  | 0, x, hx => ⟨rfl, hx⟩
  | n + 1, x, hx => by
    obtain ⟨h1, h2⟩ := itf_congr hf e n x hx
    refine ⟨?_, hf _ h2⟩
    show f (itf f n x) = h (itf h n x)
    rw [e _ h2, h1]
theorem order_le (hd : d ≤ 6) {f : Nat → Nat} (hf : ∀ x, x < d → f x < d) (hi : ∀ x y, x < d → y < d → f x = f y → x = y) : ∃ n, 1 ≤ n ∧ n ≤ 6 ∧ ∀ x, x < d → itf f n x = x := by
  have h1 := List.all_eq_true.1 allP_six d (List.mem_range.2 (by omega))
  have h2 := allP_spec d [] ((List.range d).map f) h1 (by simp) (by
    rw [List.nil_append]
    exact nodup_map_on (fun x hx y hy e => hi x y (List.mem_range.1 hx) (List.mem_range.1 hy) e) List.nodup_range) (fun x hx => by
    obtain ⟨y, hy, rfl⟩ := List.mem_map.1 hx
    exact hf y (List.mem_range.1 hy))
  rw [List.nil_append] at h2
  obtain ⟨n, hn, h3⟩ := List.any_eq_true.1 h2
  refine ⟨n + 1, by omega, by have := List.mem_range.1 hn; omega, fun x hx => ?_⟩
  have h4 := List.all_eq_true.1 h3 x (List.mem_range.2 hx)
  have h5 := eq_of_beq h4
  rw [(itf_congr (h := fun y => ((List.range d).map f).getD y 0) hf (fun y hy => by show f y = ((List.range d).map f).getD y 0; rw [List.getD_eq_getElem?_getD, List.getElem?_map, List.getElem?_range hy]; rfl) (n + 1) x hx).1]
  exact h5
/-- a word has an order of at most six -/
theorem word_order (hd : d ≤ 6) (ha : Prm d a) (hb : Prm d b) {w : W} (hw : LOk 2 w) : ∃ n, 1 ≤ n ∧ n ≤ 6 ∧ ∀ x, x < d → itf (fun y => actW (act2 a b) y w) n x = x :=
  order_le hd (fun _ hx => (act2_none ha hb).clW hw hx) fun x y hx hy e => by
    have h1 := (act2_none ha hb).invW hw hx
    have h2 := (act2_none ha hb).invW hw hy
    have e' : actW (act2 a b) x w = actW (act2 a b) y w := e
    rw [e'] at h1
    rw [← h1, h2]
end
theorem act_way {act : Nat → Nat → Nat} {g : Nat} {t : Tb} {φ : Nat → Nat} (ht : Full g t) (he : ∀ x c y, x < t.length → c < 2 * g → Edge t x c y → act (φ x) c = φ y) : ∀ {w : W} {x y : Nat}, LOk g w → x < t.length → Way t x w y → actW act (φ x) w = φ y := by
  intro w
  induction w with
  | nil => intro x y _ _ h; have e : x = y := h; rw [e]; rfl
  | cons l w ih =>
    intro x y hw hx h
    obtain ⟨z, h1, h2⟩ := h
    have hc := col_ltL (hw l (by simp))
    have hz : z < t.length := by
      obtain ⟨h3, h4⟩ := ht.nx hx hc
      unfold Edge at h1 h4
      omega
    show actW act (act (φ x) (col l)) w = φ y
    rw [he x _ z hx hc h1]
    exact ih (fun m hm => hw m (by simp [hm])) hz h2
end Go.Proofs.Ct
namespace Go.Proofs.Ct
/-- which of those that are left is taken -/
def pick (l : List Int) (i n : Nat) : Nat := if i < l.length then (l.getD i 0 % (n : Int)).toNat else 0
def perSt (d : Nat) (l : List Int) : Nat → List Nat × List Nat
  | 0 => (List.range d, [])
  | i + 1 => ((perSt d l i).1.take (pick l i (perSt d l i).1.length) ++ (perSt d l i).1.drop (pick l i (perSt d l i).1.length + 1), (perSt d l i).2 ++ [(perSt d l i).1.getD (pick l i (perSt d l i).1.length) 0])
def permF (d : Nat) (l : List Int) : List Nat := (perSt d l d).2
theorem pick_lt (l : List Int) (i : Nat) {n : Nat} (h : 0 < n) : pick l i n < n := by
  unfold pick
  split
  · have h1 := Int.emod_lt_of_pos (l.getD i 0) (show (0 : Int) < (n : Int) by omega)
    have h2 := Int.emod_nonneg (l.getD i 0) (show (n : Int) ≠ 0 by omega)
    omega
  · exact h
theorem perSt_ok (d : Nat) (l : List Int) : ∀ i, i ≤ d → (perSt d l i).1.length = d - i ∧ (perSt d l i).2.length = i ∧ ((perSt d l i).2 ++ (perSt d l i).1).Perm (List.range d)
  | 0, _ => ⟨by simp [perSt], rfl, by simp [perSt]⟩
  | i + 1, hi => by
    obtain ⟨h1, h2, h3⟩ := perSt_ok d l i (by omega)
    rw [perSt]
    generalize (perSt d l i).1 = s at *
    generalize (perSt d l i).2 = o at *
    have hk := pick_lt l i (n := s.length) (by omega)
    generalize pick l i s.length = k at *
    have hs : s = s.take k ++ s.getD k 0 :: s.drop (k + 1) := by
      rw [List.getD_eq_getElem?_getD, List.getElem?_eq_getElem hk]
      exact (List.take_append_drop k s).symm.trans (by rw [List.drop_eq_getElem_cons hk]; rfl)
    refine ⟨by simp; omega, by simp; omega, ?_⟩
    refine List.Perm.trans ?_ h3
    show (o ++ [s.getD k 0] ++ (s.take k ++ s.drop (k + 1))).Perm (o ++ s)
    rw [List.append_assoc]
    refine List.Perm.append_left o ?_
    generalize hx : s.getD k 0 = x at *
    rw [List.singleton_append]
    conv => rhs; rw [hs]
    exact List.perm_middle.symm
theorem permF_prm (d : Nat) (l : List Int) : Prm d (permF d l) := by
  obtain ⟨h1, h2, h3⟩ := perSt_ok d l d (Nat.le_refl _)
  have h4 : (perSt d l d).1 = [] := List.length_eq_zero_iff.1 (by omega)
  rw [h4, List.append_nil] at h3
  exact ⟨h2, h3.nodup_iff.2 List.nodup_range, fun x hx => List.mem_range.1 (h3.mem_iff.1 hx)⟩
theorem perSt_left_lt (d : Nat) (l : List Int) (i : Nat) (hi : i ≤ d) : (∀ x ∈ (perSt d l i).1, x < d) ∧ ∀ x ∈ (perSt d l i).2, x < d := by
  obtain ⟨-, -, h3⟩ := perSt_ok d l i hi
  exact ⟨fun x hx => List.mem_range.1 (h3.mem_iff.1 (by simp [hx])), fun x hx => List.mem_range.1 (h3.mem_iff.1 (by simp [hx]))⟩
end Go.Proofs.Ct
namespace Go.Proofs
open Go.RowKit Go.Shelf Go.Proofs.Ct Go.Maps
/-- what CosetMaps finds -/
structure MapT (a b : List Nat) (d : Nat) (t : Tb) : Prop where
  full : Full 2 t
  reps : repsE 2 t = (reps t, 0)
  len : (Ct.reps t).length = t.length
  ok : ∀ i, LOk 2 ((Ct.reps t).getD i [])
  lt : ∀ i, i < t.length → actW (act2 a b) 0 ((Ct.reps t).getD i []) < d
  edge : ∀ i c, i < t.length → c < 4 → ∃ s, s < t.length ∧ t.at i c = (s : Int) ∧ actW (act2 a b) 0 ((Ct.reps t).getD s []) = act2 a b (actW (act2 a b) 0 ((Ct.reps t).getD i [])) c
theorem maps_law {d : Nat} {a b : List Nat} {rels sub : List W} {t : Tb} (hd : 1 ≤ d) (ha : Prm d a) (hb : Prm d b) (hrel : ∀ x, x < d → ∀ j, j < rels.length → actW (act2 a b) x (rels.getD j []) = x) (hsub : ∀ j, j < sub.length → actW (act2 a b) 0 (sub.getD j []) = 0) (ht : Coset 2 rels sub t) : MapT a b d t := by
  obtain ⟨φ, h0, hlt, he⟩ := ht.univ (act2_mdl ha hb hrel) (p0 := 0) (by omega) hsub
  have hp : ∀ i, i < t.length → actW (act2 a b) 0 ((Ct.reps t).getD i []) = φ i := fun i hi => by
    have := act_way ht.full he (reps_ok ht.full i) ht.full.good.n1 (reps_way ht.full ht.std i hi)
    rwa [h0] at this
  refine ⟨ht.full, repsE_full ht.full ht.std, reps_len ht.full ht.std, reps_ok ht.full, fun i hi => by rw [hp i hi]; exact hlt i hi, fun i c hi hc => ?_⟩
  obtain ⟨s, h3, h4⟩ := ht.full.edge hi (c := c) (by omega)
  exact ⟨s, h3, h4, by rw [hp i hi, hp s h3]; exact (he i c s hi (by omega) h4).symm⟩
/-- the words whose orders become relators -/
def mapWords (l : List Int) : List W := lawWords 2 6 l ++ [[1], [2], [1, 2]]
theorem wds_map (l : List Int) : Wds 2 (mapWords l) 9 12 := wds_of_mem (by have := (wds_law (g := 2) (by omega) 6 l).len; unfold mapWords; simp; omega) fun w hw => by
  unfold mapWords at hw
  rcases List.mem_append.1 hw with hw | hw
  · unfold lawWords at hw
    exact mem_wordsTo (by omega) _ _ w (List.mem_of_mem_take hw)
  · simp only [List.mem_cons, List.not_mem_nil, or_false] at hw
    rcases hw with rfl | rfl | rfl
    · exact ⟨by decide, fun x hx => by simp at hx; omega⟩
    · exact ⟨by decide, fun x hx => by simp at hx; omega⟩
    · exact ⟨by decide, fun x hx => by simp at hx; omega⟩
/-- a relator: a word as often as its order says -/
def IsRel (a b : List Nat) (d : Nat) (w v : W) : Prop := ∃ n, 1 ≤ n ∧ n ≤ 6 ∧ v = wpow w n ∧ ∀ x, x < d → actW (act2 a b) x v = x
/-- the words that leave point 0 where it is -/
def subsAt (a b : List Nat) (l : List W) : List W := l.filter fun w => actW (act2 a b) 0 w == 0
theorem wds_subs {a b : List Nat} {l : List W} {n m : Nat} (h : Wds 2 l n m) : Wds 2 (subsAt a b l) n m := by
  refine wds_of_mem (Nat.le_trans (List.length_filter_le _ _) h.len) fun w hw => ?_
  obtain ⟨j, hj, rfl⟩ := List.getElem_of_mem (List.mem_filter.1 hw).1
  have h1 := h.short j
  have h2 := h.ok j hj
  rw [List.getD_eq_getElem?_getD, List.getElem?_eq_getElem hj] at h1 h2
  exact ⟨h1, h2⟩
theorem wds_rels {a b : List Nat} {d : Nat} {l R : List W} (h : Wds 2 l 9 12) (hl : R.length = l.length) (hR : ∀ j, j < l.length → IsRel a b d (l.getD j []) (R.getD j [])) : Wds 2 R 9 72 := by
  refine ⟨by rw [hl]; exact h.len, fun j => ?_, fun j hj => ?_⟩
  · rcases Nat.lt_or_ge j l.length with hj | hj
    · obtain ⟨n, h1, h2, h3, -⟩ := hR j hj
      rw [h3, length_wpow]
      exact Nat.mul_le_mul h2 (h.short j)
    · rw [List.getD_eq_getElem?_getD, List.getElem?_eq_none (by omega)]
      simp
  · obtain ⟨n, h1, h2, h3, -⟩ := hR j (by omega)
    rw [h3]
    exact wpow_ok (h.ok j (by omega)) n
/-- what CosetMaps meets -/
theorem maps_all {d : Nat} {a b : List Nat} {l R S : List W} (hd : 1 ≤ d) (ha : Prm d a) (hb : Prm d b) (h : Wds 2 l 9 12) (hl : R.length = l.length) (hR : ∀ j, j < l.length → IsRel a b d (l.getD j []) (R.getD j [])) (hS : Wds 2 S 6 12) (hS0 : ∀ j, j < S.length → actW (act2 a b) 0 (S.getD j []) = 0) :
    ∃ (t : Tb) (d1 m1 e1 : Int), enumE 2 R S 300 = (t, (d1, m1), e1) ∧ (e1 = 12 ∨ e1 = 0) ∧ (e1 = 0 → MapT a b d t ∧ t.length ≤ 300) := by
  have hw := wds_rels h hl hR
  rcases enum_cases (g := 2) (rels := R) (sub := S) (lim := 300) ⟨by omega, by omega⟩ (hw.pres ⟨by omega, by omega⟩ (by omega) (by omega)) hw.ok hS.ok (fun lim' x y => hS.good (by omega) (by omega) ⟨x, y⟩) (by omega) with hc | ⟨t, q, k, hc⟩
  · exact ⟨_, _, _, _, hc, .inl rfl, fun e => by cases e⟩
  · refine ⟨t, _, _, _, hc.is 300 hc.room (by omega), .inr rfl, fun _ => ⟨maps_law hd ha hb (fun x hx j hj => ?_) hS0 hc.coset, ?_⟩⟩
    · obtain ⟨n, -, -, -, h4⟩ := hR j (by omega)
      exact h4 x hx
    · have := hc.live; have := hc.most; have := hc.room; omega
theorem subs_fix {a b : List Nat} {l : List W} : ∀ j, j < (subsAt a b l).length → actW (act2 a b) 0 ((subsAt a b l).getD j []) = 0 := fun j hj => by
  rw [List.getD_eq_getElem?_getD, List.getElem?_eq_getElem hj]
  have h1 := (List.mem_filter.1 (List.getElem_mem hj)).2
  simpa using h1
end Go.Proofs
namespace Go.Proofs
open Go.RowKit Go.Shelf Go.Proofs.Ct Go.Maps
def nz (a : List Nat) : List Int := a.map fun (x : Nat) => (x : Int)
theorem length_nz (a : List Nat) : (nz a).length = a.length := by simp [nz]
theorem nz_getD (a : List Nat) (k : Nat) : (nz a).getD k 0 = ((a.getD k 0 : Nat) : Int) := by
  unfold nz
  rw [List.getD_eq_getElem?_getD, List.getD_eq_getElem?_getD, List.getElem?_map]
  cases a[k]? <;> rfl
/-- the two permutations in memory -/
def Two (w : World) (vm : Value) (a b : List Nat) : Prop := Tab w vm [nz a, nz b]
def row2 (a b : List Nat) (q : Nat) : List Nat := if q = 0 then a else b
theorem act2_pos {a b : List Nat} {p q : Nat} {l : Int} (hq : q < 2) (h : l = (q : Int) + 1) : act2 a b p (col l) = (row2 a b q).getD p 0 := by
  have : q = 0 ∨ q = 1 := by omega
  rcases this with rfl | rfl <;> subst h <;> rfl
theorem act2_neg {a b : List Nat} {p q : Nat} {l : Int} (hq : q < 2) (h : l = -((q : Int) + 1)) : act2 a b p (col l) = (row2 a b q).idxOf p := by
  have : q = 0 ∨ q = 1 := by omega
  rcases this with rfl | rfl <;> subst h <;> rfl
theorem letter_two {l : Int} (h : -((2 : Nat) : Int) ≤ l ∧ l ≤ ((2 : Nat) : Int) ∧ l ≠ 0) : ∃ q : Nat, q < 2 ∧ (l = (q : Int) + 1 ∨ l = -((q : Int) + 1)) := by
  rcases (by omega : l = 1 ∨ l = 2 ∨ l = -1 ∨ l = -2) with rfl | rfl | rfl | rfl
  · exact ⟨0, by omega, .inl rfl⟩
  · exact ⟨1, by omega, .inl rfl⟩
  · exact ⟨0, by omega, .inr rfl⟩
  · exact ⟨1, by omega, .inr rfl⟩
theorem row2_prm {a b : List Nat} {d q : Nat} (ha : Prm d a) (hb : Prm d b) : Prm d (row2 a b q) := by
  unfold row2
  split
  · exact ha
  · exact hb
theorem actW_take {act : Nat → Nat → Nat} {x : Nat} {ws : Ct.W} {k : Nat} (h : k < ws.length) : actW act x (ws.take (k + 1)) = act (actW act x (ws.take k)) (col (ws.getD k 0)) := by
  rw [take_snocW h, actW_app]; rfl
theorem actW_lt {a b : List Nat} {d x : Nat} (ha : Prm d a) (hb : Prm d b) (hx : x < d) : ∀ (ws : Ct.W), actW (act2 a b) x ws < d := fun ws => by
  induction ws generalizing x with
  | nil => exact hx
  | cons l ws ih => exact ih (act2_lt ha hb _ _ hx)
theorem idx_first {a : List Nat} {j x : Nat} (hj : j < a.length) (e : a.getD j 0 = x) : a.idxOf x ≤ j := by
  rw [List.getD_eq_getElem?_getD, List.getElem?_eq_getElem hj] at e
  simp only [Option.getD_some] at e
  subst e
  rcases Nat.lt_or_ge j (a.idxOf a[j]) with h | h
  · exact absurd (beq_self_eq_true a[j]) (by
      have h2 := List.not_of_lt_findIdx (p := fun y => y == a[j]) (by exact h)
      rw [h2]; decide)
  · exact h
/-- how the two lie in memory -/
theorem Two.open_ {w : World} {vm : Value} {a b : List Nat} {d : Nat} (h : Two w vm a b) (ha : Prm d a) (hb : Prm d b) (hd : 1 ≤ d) : ∃ bm om cm, vm = .slice (some ⟨bm, om, none⟩) 2 cm ∧ ∀ q, q < 2 → ∃ bq oq cq, w.cell? ⟨bm, om + q, none⟩ = some (.slice (some ⟨bq, oq, none⟩) d cq) ∧ ∀ y, y < d → w.cell? ⟨bq, oq + y, none⟩ = some (.int .i64 (((row2 a b q).getD y 0 : Nat) : Int)) := by
  obtain ⟨A, c, rfl, -, -, hc⟩ := LAt.open_ h
  obtain ⟨bm, om, rfl, hr⟩ := hc (by simp)
  refine ⟨bm, om, c, rfl, fun q hq => ?_⟩
  obtain ⟨u, hu, hi⟩ := hr q (by simpa using hq)
  have e : ([nz a, nz b] : List (List Int)).getD q [] = nz (row2 a b q) := by
    have : q = 0 ∨ q = 1 := by omega
    rcases this with rfl | rfl <;> rfl
  rw [e] at hi
  obtain ⟨A', c', rfl, -, -, hc'⟩ := hi.open_
  rw [length_nz, (row2_prm ha hb).len] at hc' hu
  obtain ⟨b', o', rfl, hcc⟩ := hc' (by omega)
  exact ⟨b', o', c', hu, fun y hy => by rw [← nz_getD]; exact hcc y hy⟩
set_option maxRecDepth 100000 in
theorem img65_any (w : World) (vm vw : Value) (a b : List Nat) (d x : Nat) (ws : Ct.W) (hd : 1 ≤ d ∧ d ≤ 6) (ha : Prm d a) (hb : Prm d b) (hm : Two w vm a b) (hw : IntsAt w vw ws) (hx : x < d) (hok : LOk 2 ws) :
    Calls Try.prog 65 #[vm, .int .i64 (x : Int), vw] w fun e w' => e = .returned (.int .i64 ((actW (act2 a b) x ws : Nat) : Int)) ∧ w' = w := by
  obtain ⟨bm, om, cm, rfl, hrow⟩ := hm.open_ ha hb hd.1
  obtain ⟨Aw, cw, rfl, hw1, hw2, hwc⟩ := hw.open_
  have HROW := Lib.hid hrow
  have HWC := Lib.hid hwc
  have HA := Lib.hid ha
  have HB := Lib.hid hb
  have HX := Lib.hid hx
  have HOK := Lib.hid hok
  have HD := Lib.hid hd
  have hwl : (ws.length : Int) ≤ 9223372036854775807 := by omega
  have hwl0 : (0 : Int) ≤ (ws.length : Int) := Int.natCast_nonneg _
  clear hrow hwc hw hm ha hb hx hok hw1 hw2 hd
  go_enter Try.func65, Try.ntmps65
  go_wp2_with fail
  go_loopw [1, 7] (fun xv i wr => ∃ k : Nat, i = .int .i64 (k : Int) ∧ k ≤ ws.length ∧ xv = .int .i64 ((actW (act2 a b) x (ws.take k) : Nat) : Int) ∧ wr = w) (fun _ i _ => ws.length - (intOf i).toNat)
  case atStart => exact ⟨0, rfl, Nat.zero_le _, rfl, by first | trivial | rfl⟩
  case round =>
    obtain ⟨k, rfl, hk, rfl, rfl⟩ := hrel
    have hk0 : (0 : Int) ≤ (k : Int) := Int.natCast_nonneg _
    by_cases hlt : k < ws.length
    · have hlt' : (k : Int) < (ws.length : Int) := by omega
      obtain ⟨bw, ow, rfl, hcell⟩ := HWC.out (by omega)
      have x1 := hcell k hlt
      have hpx := actW_lt HA.out HB.out HX.out (ws.take k)
      obtain ⟨q, hq, hl⟩ := letter_two (HOK.out (ws.getD k 0) (by rw [List.getD_eq_getElem?_getD, List.getElem?_eq_getElem hlt]; exact List.getElem_mem hlt))
      obtain ⟨bq, oq, cq, x2, hcq⟩ := HROW.out q hq
      have HST : Hid (actW (act2 a b) x (ws.take (k + 1)) = act2 a b (actW (act2 a b) x (ws.take k)) (col (ws.getD k 0))) := Lib.hid (actW_take hlt)
      generalize actW (act2 a b) x (ws.take k) = p at *
      generalize ws.getD k 0 = l at *
      have hp0 : (0 : Int) ≤ (p : Int) := Int.natCast_nonneg _
      have hp1 : (p : Int) < (d : Int) := by omega
      have hq0 : (0 : Int) ≤ (q : Int) := Int.natCast_nonneg _
      have hq1 : (q : Int) < 2 := by omega
      rcases hl with hl | hl
      · have x3 := hcq p hpx
        rw [act2_pos hq hl] at HST
        have hl0 : 0 < l := by omega
        have e1 : l - 1 = (q : Int) := by omega
        have hl2 : l ≤ 2 := by omega
        clear hl hcq hcell
        generalize (row2 a b q).getD p 0 = z at *
        go_wp2_with fail
        go_roundw
        case rel => exact ⟨k + 1, by go_num, by omega, by rw [HST.out], by first | trivial | rfl⟩
        case measure => simp [intOf]; omega
      · rw [act2_neg hq hl] at HST
        have HP := Lib.hid (row2_prm (q := q) HA.out HB.out)
        obtain ⟨hib, hiv⟩ := HP.out.back hpx
        have HIB := Lib.hid hib
        have HIV := Lib.hid hiv
        have HCQ := Lib.hid hcq
        have hl0 : ¬ 0 < l := by omega
        have e1 : -l - 1 = (q : Int) := by omega
        have hl2 : -2 ≤ l := by omega
        have hl3 : l ≤ 2 := by omega
        have HLN := Lib.hid hl
        have hd0 : (d : Int) ≤ 6 := by have := HD.out; omega
        clear hl hcq hcell hib hiv
        go_wp2_with fail
        go_loopw [1, 8] (fun xv y wr2 => ∃ j : Nat, y = .int .i64 (j : Int) ∧ j ≤ (row2 a b q).idxOf p ∧ xv = .int .i64 (p : Int) ∧ wr2 = wr) (fun _ y _ => d - (intOf y).toNat)
        case atStart => exact ⟨0, rfl, Nat.zero_le _, rfl, by first | trivial | rfl⟩
        case round =>
          obtain ⟨j, rfl, hj, rfl, rfl⟩ := hrel
          have hjd : j < d := Nat.lt_of_le_of_lt hj HIB.out
          have hj0 : (0 : Int) ≤ (j : Int) := Int.natCast_nonneg _
          have hjd' : (j : Int) < (d : Int) := by omega
          have x3 := HCQ.out j hjd
          have HF := Lib.hid (idx_first (a := row2 a b q) (j := j) (x := p) (by rw [HP.out.len]; exact hjd))
          by_cases hz : (row2 a b q).getD j 0 = p
          · have HI : Hid (j = (row2 a b q).idxOf p) := Lib.hid (Nat.le_antisymm hj (HF.out hz))
            rw [← HI.out] at HST
            rw [hz] at x3
            have d1 : ((p : Int) == (p : Int)) = true := by simp
            clear hz hj
            go_wp2_with fail
            go_roundw
            case rel => exact ⟨k + 1, by go_num, by omega, by rw [HST.out], by first | trivial | rfl⟩
            case measure => simp [intOf]; omega
          · have hjn : j + 1 ≤ (row2 a b q).idxOf p := by
              rcases Nat.lt_or_ge j ((row2 a b q).idxOf p) with h | h
              · exact h
              · exfalso
                have : j = (row2 a b q).idxOf p := Nat.le_antisymm hj h
                rw [this] at hz
                exact hz HIV.out
            have hzi : (((row2 a b q).getD j 0 : Nat) : Int) ≠ (p : Int) := by omega
            generalize (row2 a b q).getD j 0 = z at *
            have d1 : ((z : Int) == (p : Int)) = false := by rw [beq_eq_false_iff_ne]; exact hzi
            clear hz hj hzi
            go_wp2_with fail
            go_roundw
            case rel => exact ⟨j + 1, by go_num, hjn, rfl, by first | trivial | rfl⟩
            case measure => simp [intOf]; omega
    · obtain rfl : k = ws.length := by omega
      have e1 : ws.take ws.length = ws := List.take_length
      rw [e1]
      clear e1
      go_wp2_with fail
      go_ret
      exact ⟨rfl, rfl⟩
end Go.Proofs
