/- Coset tables, plainly: check, the standard table, representatives. No program in sight; Coset tables, plainly: the order of a table, standard tables, the lengths of representatives; Words and Schreier systems, plainly; Schreier systems, plainly: the places of pairs; The letters of representatives; Presentations of subgroups, plainly: which relators, in which order, and when they are too long; Coset enumeration, plainly: states, coincidences, and what they keep. No program in sight; Coset enumeration, plainly: a coincidence keeps the edges, and empties the rows of the dead. -/
namespace Go.Proofs.Ct
def foldTo {α : Type} (f : Nat → α → α) : Nat → α → α
  | 0, x => x
  | k + 1, x => f k (foldTo f k x)
theorem foldTo_inv {α : Type} {f : Nat → α → α} {p : Nat → α → Prop} {x : α} (h0 : p 0 x) : ∀ (n : Nat) (_ : ∀ k x, k < n → p k x → p (k + 1) (f k x)), p n (foldTo f n x)
  | 0, _ => h0
  | n + 1, hf => hf n _ (Nat.lt_succ_self n) (foldTo_inv h0 n (fun k x hk hx => hf k x (Nat.lt_succ_of_lt hk) hx))
abbrev Tb := List (List Int)
def Tb.row (t : Tb) (r : Nat) : List Int := t.getD r []
def Tb.at (t : Tb) (r c : Nat) : Int := (t.row r).getD c 0
def first (p : Nat → Bool) (n : Nat) : Option Nat := (List.range n).find? p
theorem first_some {p : Nat → Bool} {n k : Nat} (hk : k < n) (hp : p k = true) (hb : ∀ j, j < k → p j = false) : first p n = some k := by
  unfold first
  rw [List.find?_range_eq_some]
  exact ⟨hp, by simpa using hk, fun j hj => by simp [hb j hj]⟩
theorem first_none {p : Nat → Bool} {n : Nat} (hb : ∀ j, j < n → p j = false) : first p n = none := by
  unfold first
  rw [List.find?_eq_none]
  intro x hx
  simp [hb x (by simpa using hx)]
theorem first_none' {p : Nat → Bool} {n : Nat} (h : first p n = none) : ∀ j, j < n → p j = false := by
  intro j hj
  unfold first at h
  rw [List.find?_eq_none] at h
  simpa using h j (by simpa using hj)
theorem first_some' {p : Nat → Bool} {n k : Nat} (h : first p n = some k) : k < n ∧ p k = true ∧ ∀ j, j < k → p j = false := by
  unfold first at h
  rw [List.find?_range_eq_some] at h
  exact ⟨by simpa using h.2.1, h.1, fun j hj => by simpa using h.2.2 j hj⟩
def outB (n : Int) (s : Int) : Bool := decide (s < -1) || decide (n ≤ s)
theorem outB_false {n s : Int} : outB n s = false ↔ -1 ≤ s ∧ s < n := by
  unfold outB
  rw [Bool.or_eq_false_iff, decide_eq_false_iff_not, decide_eq_false_iff_not]
  omega
def rowOut (n : Int) (row : List Int) : Bool := row.any (outB n)
def rowBad (g n : Int) (row : List Int) : Bool := decide ((row.length : Int) ≠ 2 * g) || rowOut n row
def flp (c : Nat) : Nat := if c % 2 = 0 then c + 1 else c - 1
def sumAt (t : Tb) (r c : Nat) : Bool := decide (0 ≤ t.at r c) && decide (t.at (t.at r c).toNat (flp c) ≠ (r : Int))
def sumBad (t : Tb) (m : Nat) (r : Nat) : Bool := (List.range m).any (sumAt t r)
def wide (g : Int) (t : Tb) : Bool := decide (g < 1) || decide (16 < g) || decide (t.length < 1) || decide (20000 < t.length)
def check (g : Int) (t : Tb) : Int × Int :=
  if wide g t then (2, -1) else
  match first (fun r => rowBad g t.length (t.row r)) t.length with
  | some r => (if ((t.row r).length : Int) ≠ 2 * g then 3 else 2, r)
  | none => match first (sumBad t (2 * g).toNat) t.length with
    | some r => (14, r)
    | none => (0, -1)
structure TGood (g : Nat) (t : Tb) : Prop where
  g1 : 1 ≤ g
  g16 : g ≤ 16
  n1 : 1 ≤ t.length
  n2 : t.length ≤ 20000
  len : ∀ r, r < t.length → (t.row r).length = 2 * g
  bd : ∀ r, r < t.length → ∀ c, c < 2 * g → -1 ≤ t.at r c ∧ t.at r c < t.length
  back : ∀ r, r < t.length → ∀ c, c < 2 * g → 0 ≤ t.at r c → t.at (t.at r c).toNat (flp c) = r
theorem rowOut_false {n : Int} {row : List Int} (h : rowOut n row = false) : ∀ c, c < row.length → -1 ≤ row.getD c 0 ∧ row.getD c 0 < n := by
  intro c hc
  unfold rowOut at h
  rw [List.any_eq_false] at h
  have := h (row.getD c 0) (by rw [List.getD_eq_getElem?_getD, List.getElem?_eq_getElem hc]; exact List.getElem_mem hc)
  rw [Bool.not_eq_true] at this
  exact outB_false.1 this
theorem rowOut_false' {n : Int} {row : List Int} (h : ∀ c, c < row.length → -1 ≤ row.getD c 0 ∧ row.getD c 0 < n) : rowOut n row = false := by
  unfold rowOut
  rw [List.any_eq_false]
  intro x hx
  obtain ⟨c, hc, rfl⟩ := List.mem_iff_getElem.1 hx
  have := h c hc
  rw [List.getD_eq_getElem?_getD, List.getElem?_eq_getElem hc] at this
  rw [Bool.not_eq_true]
  exact outB_false.2 this
theorem rowOut_true {n : Int} {row : List Int} {c : Nat} (hc : c < row.length) (h : row.getD c 0 < -1 ∨ n ≤ row.getD c 0) : rowOut n row = true := by
  rcases hb : rowOut n row with _ | _
  · have := rowOut_false hb c hc
    omega
  · rfl
theorem check_good {g : Int} {t : Tb} (h : (check g t).1 = 0) : 0 ≤ g ∧ TGood g.toNat t ∧ check g t = (0, -1) := by
  unfold check at h ⊢
  rcases hw : wide g t with _ | _
  · rw [hw] at h
    simp only [Bool.false_eq_true, if_false] at h ⊢
    rcases h1 : first (fun r => rowBad g t.length (t.row r)) t.length with _ | r
    · rw [h1] at h
      simp only at h ⊢
      rcases h2 : first (sumBad t (2 * g).toNat) t.length with _ | r
      · simp [wide] at hw
        have hl : ∀ r, r < t.length → (t.row r).length = 2 * g.toNat := fun r hr => by
          have := first_none' h1 r hr
          simp [rowBad] at this
          omega
        have hn : 1 ≤ t.length := by
          rcases Nat.eq_zero_or_pos t.length with h0 | h0
          · exact absurd (List.length_eq_zero_iff.1 h0) (by simpa using hw.1.2)
          · exact h0
        refine ⟨by omega, ⟨by omega, by omega, hn, by omega, hl, ?_, ?_⟩, by simp⟩
        · intro r hr c hc
          have := first_none' h1 r hr
          simp [rowBad] at this
          exact rowOut_false this.2 c (by rw [hl r hr]; exact hc)
        · intro r hr c hc h0
          have := first_none' h2 r hr
          unfold sumBad at this
          rw [List.any_eq_false] at this
          have := this c (by simp; omega)
          simp [sumAt] at this
          exact this h0
      · rw [h2] at h
        simp at h
    · rw [h1] at h
      simp only at h
      split at h <;> simp at h
  · rw [hw] at h
    simp at h
theorem check_of_good {g : Nat} {t : Tb} (h : TGood g t) : check g t = (0, -1) := by
  have hw : wide g t = false := by
    have := h.g1; have := h.g16; have := h.n1; have := h.n2
    unfold wide
    simp only [Bool.or_eq_false_iff, decide_eq_false_iff_not]
    omega
  have h1 : first (fun r => rowBad g t.length (t.row r)) t.length = none := first_none fun r hr => by
    have hl := h.len r hr
    simp [rowBad, hl]
    exact rowOut_false' fun c hc => h.bd r hr c (by omega)
  have h2 : first (sumBad t (2 * (g : Int)).toNat) t.length = none := first_none fun r hr => by
    unfold sumBad
    rw [List.any_eq_false]
    intro c hc
    have hc' : c < 2 * g := by simp at hc; omega
    simp [sumAt]
    exact h.back r hr c hc'
  unfold check
  rw [hw, h1, h2]
  rfl
theorem sumBad_true {t : Tb} {m r c : Nat} (hc : c < m) (h : sumAt t r c = true) : sumBad t m r = true := by
  unfold sumBad
  rw [List.any_eq_true]
  exact ⟨c, by simpa using hc, h⟩
theorem sumBad_false {t : Tb} {m r : Nat} (h : ∀ c, c < m → sumAt t r c = false) : sumBad t m r = false := by
  unfold sumBad
  rw [List.any_eq_false]
  intro c hc
  simp [h c (by simpa using hc)]
def visit (l : List Int) (s : Int) : List Int := if decide (s < 0) || l.contains s then l else l ++ [s]
def visitTo (row : List Int) (c : Nat) (l : List Int) : List Int := foldTo (fun c l => visit l (row.getD c 0)) c l
def ordTo (t : Tb) (b : Int) : Nat → List Int
  | 0 => [b]
  | k + 1 => if k < (ordTo t b k).length then visitTo (t.row ((ordTo t b k).getD k 0).toNat) (t.row ((ordTo t b k).getD k 0).toNat).length (ordTo t b k) else ordTo t b k
def ord (t : Tb) (b : Int) : List Int := ordTo t b t.length
def numOf (l : List Int) (x : Int) : Int := (l.idxOf x : Int)
def neg (row : List Int) : Bool := row.any fun s => decide (s < 0)
def std (t : Tb) (b : Int) : Option Tb :=
  if (ord t b).length = t.length ∧ t.any neg = false then some ((ord t b).map fun r => (t.row r.toNat).map (numOf (ord t b))) else none
def complete (t : Tb) : Bool := !(t.any fun row => row.contains (-1))
def stdE (g : Int) (t : Tb) (b : Int) : Tb × Int :=
  if (check g t).1 ≠ 0 then ([], (check g t).1) else
  if b < 0 ∨ (t.length : Int) ≤ b then ([], 2) else
  match std t b with | none => ([], 13) | some s => (s, 0)
def letter (c : Nat) : Int := if c % 2 = 1 then -((c / 2 : Nat) + 1) else (c / 2 : Nat) + 1
abbrev W := List Int
def repCol (t : Tb) (r c : Nat) (out : List W) : List W := if t.at r c = (out.length : Int) then out ++ [out.getD r [] ++ [letter c]] else out
def repRow (t : Tb) (r : Nat) (out : List W) : List W := foldTo (repCol t r) (t.row r).length out
def reps (t : Tb) : List W := foldTo (repRow t) t.length [[]]
def repsE (g : Int) (t : Tb) : List W × Int :=
  if (check g t).1 ≠ 0 then ([], (check g t).1) else if std t 0 = some t then (reps t, 0) else ([], 13)
end Go.Proofs.Ct
namespace Go.Proofs.Ct
theorem visit_pre (l : List Int) (s : Int) : l <+: visit l s := by
  unfold visit
  split
  · exact List.prefix_refl _
  · exact List.prefix_append _ _
theorem visitTo_pre (row : List Int) (c : Nat) (l : List Int) : l <+: visitTo row c l := by
  induction c with
  | zero => exact List.prefix_refl _
  | succ c ih => exact ih.trans (visit_pre _ _)
theorem visitTo_mono (row : List Int) {c d : Nat} (h : c ≤ d) (l : List Int) : visitTo row c l <+: visitTo row d l := by
  obtain ⟨e, rfl⟩ := Nat.exists_eq_add_of_le h
  clear h
  induction e with
  | zero => exact List.prefix_refl _
  | succ e ih => exact ih.trans (visit_pre _ _)
theorem ordTo_pre (t : Tb) (b : Int) (k : Nat) : ordTo t b k <+: ordTo t b (k + 1) := by
  rw [ordTo]
  split
  · exact visitTo_pre _ _ _
  · exact List.prefix_refl _
theorem ordTo_mono (t : Tb) (b : Int) {k m : Nat} (h : k ≤ m) : ordTo t b k <+: ordTo t b m := by
  obtain ⟨e, rfl⟩ := Nat.exists_eq_add_of_le h
  clear h
  induction e with
  | zero => exact List.prefix_refl _
  | succ e ih => exact ih.trans (ordTo_pre _ _ _)
theorem ordTo_stable (t : Tb) (b : Int) {k : Nat} (h : (ordTo t b k).length ≤ k) {m : Nat} (hm : k ≤ m) : ordTo t b m = ordTo t b k := by
  obtain ⟨e, rfl⟩ := Nat.exists_eq_add_of_le hm
  clear hm
  induction e with
  | zero => rfl
  | succ e ih =>
    rw [← Nat.add_assoc, ordTo, ih, if_neg (by omega)]
structure Cos (n : Nat) (l : List Int) : Prop where
  nd : l.Nodup
  bd : ∀ x ∈ l, 0 ≤ x ∧ x < n
theorem Cos.visit {n : Nat} {l : List Int} (h : Cos n l) {s : Int} (hs : s < n) : Cos n (visit l s) := by
  unfold Ct.visit
  split
  · exact h
  · rename_i hc
    simp at hc
    refine ⟨List.nodup_append.2 ⟨h.nd, by simp, fun a ha b hb => ?_⟩, fun x hx => ?_⟩
    · simp at hb
      subst hb
      intro e
      subst e
      exact hc.2 ha
    · rw [List.mem_append] at hx
      rcases hx with hx | hx
      · exact h.bd x hx
      · simp at hx
        subst hx
        exact ⟨hc.1, hs⟩
theorem Cos.visitTo {n : Nat} {row : List Int} (hr : ∀ c, c < row.length → row.getD c 0 < n) {l : List Int} (h : Cos n l) : ∀ {c : Nat}, c ≤ row.length → Cos n (visitTo row c l)
  | 0, _ => h
  | c + 1, hc => (Cos.visitTo hr h (by omega)).visit (hr c (by omega))
theorem Cos.get {n : Nat} {l : List Int} (h : Cos n l) {k : Nat} (hk : k < l.length) : 0 ≤ l.getD k 0 ∧ l.getD k 0 < n := by
  rw [List.getD_eq_getElem?_getD, List.getElem?_eq_getElem hk]
  exact h.bd _ (List.getElem_mem hk)
theorem TGood.lt {g : Nat} {t : Tb} (h : TGood g t) {r : Nat} (hr : r < t.length) : ∀ c, c < (t.row r).length → (t.row r).getD c 0 < t.length := fun c hc => by
  rw [h.len r hr] at hc
  exact (h.bd r hr c hc).2
theorem Cos.ordTo {g : Nat} {t : Tb} (hg : TGood g t) {b : Int} (hb : 0 ≤ b) (hb' : b < t.length) : ∀ k, Cos t.length (ordTo t b k)
  | 0 => ⟨by simp [Ct.ordTo], fun x hx => by
      simp [Ct.ordTo] at hx
      subst hx
      exact ⟨hb, hb'⟩⟩
  | k + 1 => by
    have ih := Cos.ordTo hg hb hb' k
    rw [Ct.ordTo]
    split
    · rename_i hk
      have hx := ih.get hk
      exact ih.visitTo (hg.lt (by omega)) (Nat.le_refl _)
    · exact ih
theorem length_le_of_nodup : ∀ {n : Nat} {l : List Int}, Cos n l → l.length ≤ n
  | 0, l, h => by
    rcases l with _ | ⟨x, l⟩
    · simp
    · have := h.bd x (by simp)
      omega
  | n + 1, l, h => by
    have h1 : Cos n (l.erase n) := ⟨h.nd.erase _, fun x hx => by
      have h2 := (List.Nodup.mem_erase_iff h.nd).1 hx
      have h3 := h.bd x h2.2
      have : x ≠ (n : Int) := h2.1
      omega⟩
    have h4 := length_le_of_nodup h1
    rw [List.length_erase] at h4
    split at h4 <;> omega
theorem mem_of_full : ∀ {n : Nat} {l : List Int}, Cos n l → l.length = n → ∀ r : Nat, r < n → (r : Int) ∈ l := by
  intro n l h hl r hr
  by_cases hm : (r : Int) ∈ l
  · exact hm
  · exfalso
    -- r is left out: the others, with r's place taken by n - 1, are below n - 1
    have h1 : Cos n ((r : Int) :: l) := ⟨List.nodup_cons.2 ⟨hm, h.nd⟩, fun x hx => by
      rcases List.mem_cons.1 hx with rfl | hx
      · exact ⟨by omega, by omega⟩
      · exact h.bd x hx⟩
    have := length_le_of_nodup h1
    simp at this
    omega
theorem idxOf_pre {l o : List Int} (h : l <+: o) {x : Int} (hx : x ∈ l) : numOf o x = numOf l x := by
  obtain ⟨m, rfl⟩ := h
  unfold numOf
  rw [List.idxOf_append, if_pos hx]
theorem numOf_new {l o : List Int} {x : Int} (hx : x ∉ l) (h : l ++ [x] <+: o) : numOf o x = l.length := by
  obtain ⟨m, rfl⟩ := h
  unfold numOf
  rw [List.idxOf_append, if_pos (by simp), List.idxOf_append, if_neg hx]
  simp
theorem mem_visit {l : List Int} {s : Int} (h : 0 ≤ s) : s ∈ visit l s := by
  unfold visit
  split
  · rename_i hc
    simp at hc
    rcases hc with hc | hc
    · omega
    · exact hc
  · simp
theorem mem_visitTo {row : List Int} {c d : Nat} (h : c < d) (h0 : 0 ≤ row.getD c 0) (l : List Int) : row.getD c 0 ∈ visitTo row d l :=
  (visitTo_mono row (by omega : c + 1 ≤ d) l).subset (mem_visit h0)
def iota (m : Nat) : List Int := (List.range m).map Int.ofNat
theorem length_iota (m : Nat) : (iota m).length = m := by simp [iota]
theorem iota_succ (m : Nat) : iota (m + 1) = iota m ++ [(m : Int)] := by simp [iota, List.range_succ]
theorem iota_getD {m k : Nat} (h : k < m) : (iota m).getD k 0 = k := by simp [iota, List.getD_eq_getElem?_getD, h]
theorem mem_iota {m : Nat} {x : Int} : x ∈ iota m ↔ 0 ≤ x ∧ x < m := by
  simp [iota]
  constructor
  · rintro ⟨a, h1, rfl⟩; omega
  · rintro ⟨h1, h2⟩; exact ⟨x.toNat, by omega, by omega⟩
structure Std (t : Tb) : Prop where
  full : (ord t 0).length = t.length
  pos : ∀ r, r < t.length → ∀ c, c < (t.row r).length → 0 ≤ t.at r c
  num : ∀ r, r < t.length → ∀ c, c < (t.row ((ord t 0).getD r 0).toNat).length → numOf (ord t 0) (t.at ((ord t 0).getD r 0).toNat c) = t.at r c
theorem row_of_mem {t : Tb} {r : Nat} (hr : r < t.length) : t.row r ∈ t := by
  unfold Tb.row
  rw [List.getD_eq_getElem?_getD, List.getElem?_eq_getElem hr]
  exact List.getElem_mem hr
theorem no_neg {t : Tb} (h : t.any neg = false) : ∀ r, r < t.length → ∀ c, c < (t.row r).length → 0 ≤ t.at r c := by
  intro r hr c hc
  rw [List.any_eq_false] at h
  have h1 := h _ (row_of_mem hr)
  unfold neg at h1
  have h2 : ((t.row r).any fun s => decide (s < 0)) = false := by simpa using h1
  rw [List.any_eq_false] at h2
  have := h2 (t.at r c) (by
    unfold Tb.at
    rw [List.getD_eq_getElem?_getD, List.getElem?_eq_getElem hc]
    exact List.getElem_mem hc)
  simp at this
  omega
theorem std_iff {t : Tb} (h : std t 0 = some t) : Std t := by
  unfold std at h
  split at h
  · rename_i hc
    refine ⟨hc.1, no_neg hc.2, fun r hr c hcl => ?_⟩
    have he : (ord t 0).map (fun r => (t.row r.toNat).map (numOf (ord t 0))) = t := by simpa using h
    have h1 : t.row r = (t.row ((ord t 0).getD r 0).toNat).map (numOf (ord t 0)) := by
      conv => lhs; rw [← he]
      unfold Tb.row
      rw [List.getD_eq_getElem?_getD, List.getElem?_map, List.getElem?_eq_getElem (by omega : r < (ord t 0).length)]
      simp [List.getD_eq_getElem?_getD, List.getElem?_eq_getElem (by omega : r < (ord t 0).length)]
    unfold Tb.at
    rw [h1]
    have h2 : ∀ (l : List Int) (f : Int → Int), c < l.length → f (l.getD c 0) = (l.map f).getD c 0 := fun l f hl => by
      simp [List.getD_eq_getElem?_getD, hl]
    exact h2 _ _ hcl
  · simp at h
theorem pre_get {l o : List Int} (h : l <+: o) {k : Nat} (hk : k < l.length) : o.getD k 0 = l.getD k 0 := by
  obtain ⟨m, rfl⟩ := h
  simp [List.getD_eq_getElem?_getD, List.getElem?_append, hk]
structure RepAt (t : Tb) (l : List Int) (out : List W) (m : Nat) : Prop where
  od : l = iota m
  ol : out.length = m
  le : m ≤ t.length
  wl : ∀ j, j < m → (out.getD j []).length ≤ j
theorem rep_row {g : Nat} {t : Tb} (hg : TGood g t) (hs : Std t) {r m : Nat} (hr : r < t.length) (hrm : r < m) {out : List W} (hl : ordTo t 0 r = iota m) (h : RepAt t (iota m) out m) :
    ∀ c, c ≤ 2 * g → ∃ m', m ≤ m' ∧ RepAt t (visitTo (t.row r) c (iota m)) (foldTo (repCol t r) c out) m' := by
  intro c
  induction c with
  | zero => exact fun _ => ⟨m, Nat.le_refl _, h⟩
  | succ c ih =>
    intro hc
    obtain ⟨m', hm', hR⟩ := ih (by omega)
    have hlen := hg.len r hr
    have hpre0 : ordTo t 0 (r + 1) <+: ord t 0 := ordTo_mono t 0 (by omega)
    have h0 : (ordTo t 0 r).getD r 0 = r := by rw [hl, iota_getD hrm]
    have hpre : visitTo (t.row r) (2 * g) (iota m) <+: ord t 0 := by
      have := hpre0
      rw [ordTo, hl, if_pos (by rw [length_iota]; exact hrm), iota_getD hrm] at this
      simpa [hlen] using this
    have hor : (ord t 0).getD r 0 = r := by
      rw [show ord t 0 = ordTo t 0 t.length from rfl, pre_get (ordTo_mono t 0 (by omega : r ≤ t.length)) (by rw [hl, length_iota]; exact hrm), h0]
    have hnum := hs.num r hr c (by rw [hor]; simp [hlen]; omega)
    rw [hor] at hnum
    simp only [Int.toNat_natCast] at hnum
    have hp := hs.pos r hr c (by omega)
    have hstep : visitTo (t.row r) (c + 1) (iota m) = visit (visitTo (t.row r) c (iota m)) (t.at r c) := rfl
    have hpc : visit (visitTo (t.row r) c (iota m)) (t.at r c) <+: ord t 0 := by rw [← hstep]; exact (visitTo_mono _ (by omega : c + 1 ≤ 2 * g) _).trans hpre
    show ∃ m'', m ≤ m'' ∧ RepAt t (visit (visitTo (t.row r) c (iota m)) (t.at r c)) (repCol t r c (foldTo (repCol t r) c out)) m''
    rw [hR.od] at hpc ⊢
    by_cases hin : t.at r c ∈ iota m'
    · refine ⟨m', hm', ?_⟩
      have hv : visit (iota m') (t.at r c) = iota m' := by unfold visit; simp [hin]
      have hb := mem_iota.1 hin
      have hc2 : repCol t r c (foldTo (repCol t r) c out) = foldTo (repCol t r) c out := if_neg (by rw [hR.ol]; omega)
      rw [hv, hc2]
      exact ⟨rfl, hR.ol, hR.le, hR.wl⟩
    · refine ⟨m' + 1, by omega, ?_⟩
      have hv : visit (iota m') (t.at r c) = iota m' ++ [t.at r c] := by unfold visit; simp [hin]; omega
      rw [hv] at hpc ⊢
      have hn := numOf_new hin hpc
      rw [hnum, length_iota] at hn
      have hc2 : repCol t r c (foldTo (repCol t r) c out) = foldTo (repCol t r) c out ++ [(foldTo (repCol t r) c out).getD r [] ++ [letter c]] := if_pos (by rw [hR.ol]; exact hn)
      rw [hc2, hn]
      have hlt := (hg.bd r hr c (by omega)).2
      refine ⟨(iota_succ m').symm, by simp [hR.ol], by omega, fun j hj => ?_⟩
      rcases Nat.lt_or_ge j m' with h1 | h1
      · have : ((foldTo (repCol t r) c out) ++ [(foldTo (repCol t r) c out).getD r [] ++ [letter c]]).getD j [] = (foldTo (repCol t r) c out).getD j [] := by
          simp [List.getD_eq_getElem?_getD, List.getElem?_append, hR.ol, h1]
        rw [this]
        exact hR.wl j h1
      · obtain rfl : j = m' := by omega
        have : ((foldTo (repCol t r) c out) ++ [(foldTo (repCol t r) c out).getD r [] ++ [letter c]]).getD j [] = (foldTo (repCol t r) c out).getD r [] ++ [letter c] := by
          simp [List.getD_eq_getElem?_getD, hR.ol]
        rw [this]
        have := hR.wl r (by omega)
        simp only [List.length_append, List.length_singleton]
        omega
theorem rep_at {g : Nat} {t : Tb} (hg : TGood g t) (hs : Std t) : ∀ r, r ≤ t.length → ∃ m, (r < t.length → r < m) ∧ ordTo t 0 r = iota m ∧ RepAt t (iota m) (foldTo (repRow t) r [[]]) m := by
  intro r
  have hlow : ∀ r m, r < t.length → ordTo t 0 r = iota m → r < m := fun r m hr hm => by
    rcases Nat.lt_or_ge r m with h | h
    · exact h
    · have h1 : (ordTo t 0 r).length ≤ r := by rw [hm, length_iota]; exact h
      have h2 := ordTo_stable t 0 h1 (by omega : r ≤ t.length)
      have h3 := hs.full
      unfold ord at h3
      rw [h2] at h3
      omega
  induction r with
  | zero =>
    intro _
    refine ⟨1, fun _ => by omega, rfl, rfl, rfl, hg.n1, fun j hj => ?_⟩
    obtain rfl : j = 0 := by omega
    simp [foldTo]
  | succ r ih =>
    intro hr
    obtain ⟨m, hm, ho, hR⟩ := ih (by omega)
    have hrm := hm (by omega)
    obtain ⟨m', hm', hR'⟩ := rep_row hg hs (by omega : r < t.length) hrm ho hR (2 * g) (Nat.le_refl _)
    have hlen := hg.len r (by omega)
    have hstep : ordTo t 0 (r + 1) = visitTo (t.row r) (2 * g) (iota m) := by
      rw [ordTo, ho, if_pos (by rw [length_iota]; exact hrm), iota_getD hrm]
      simp [hlen]
    have hfold : foldTo (repRow t) (r + 1) [[]] = foldTo (repCol t r) (2 * g) (foldTo (repRow t) r [[]]) := by
      show repRow t r (foldTo (repRow t) r [[]]) = _
      unfold repRow
      rw [hlen]
    refine ⟨m', fun h => hlow (r + 1) m' h (by rw [hstep]; exact hR'.od), by rw [hstep]; exact hR'.od, ?_⟩
    rw [hfold]
    exact ⟨rfl, hR'.ol, hR'.le, hR'.wl⟩
theorem reps_length {g : Nat} {t : Tb} (hg : TGood g t) (hs : Std t) : (reps t).length = t.length ∧ ∀ j, j < t.length → ((reps t).getD j []).length ≤ j := by
  obtain ⟨m, _, ho, hR⟩ := rep_at hg hs t.length (Nat.le_refl _)
  have h3 := hs.full
  unfold ord at h3
  rw [ho, length_iota] at h3
  subst h3
  exact ⟨hR.ol, hR.wl⟩
end Go.Proofs.Ct
namespace Go.Proofs.Ct
def opp (x y : Int) : Bool := decide (x ≠ 0) && decide (y = -x)
def push (st : W) (x : Int) : W := if decide (0 < st.length) && opp (st.getD (st.length - 1) 0) x then st.take (st.length - 1) else st ++ [x]
def redTo (w : W) (k : Nat) : W := foldTo (fun k st => push st (w.getD k 0)) k []
def red (w : W) : W := redTo w w.length
def inv (w : W) : W := w.reverse.map fun x => -x
def mulW (a b : W) : W := red (a ++ b)
def invW (a : W) : W := red (inv a)
theorem push_mem {st : W} {x y : Int} (h : y ∈ push st x) : y ∈ st ∨ y = x := by
  unfold push at h
  split at h
  · exact .inl (List.mem_of_mem_take h)
  · simpa using h
theorem redTo_mem {w : W} : ∀ {k : Nat}, k ≤ w.length → ∀ {y : Int}, y ∈ redTo w k → y ∈ w
  | 0, _, y, h => by simp [redTo, foldTo] at h
  | k + 1, hk, y, h => by
    rcases push_mem h with h | h
    · exact redTo_mem (by omega) h
    · rw [h, List.getD_eq_getElem?_getD, List.getElem?_eq_getElem (by omega : k < w.length)]
      exact List.getElem_mem _
theorem push_length (st : W) (x : Int) : (push st x).length ≤ st.length + 1 := by
  unfold push
  split
  · simp; omega
  · simp
theorem redTo_length (w : W) : ∀ k, (redTo w k).length ≤ k
  | 0 => by simp [redTo, foldTo]
  | k + 1 => by
    have := push_length (redTo w k) (w.getD k 0)
    have := redTo_length w k
    show (push (redTo w k) (w.getD k 0)).length ≤ k + 1
    omega
theorem red_mem {w : W} {y : Int} (h : y ∈ red w) : y ∈ w := redTo_mem (Nat.le_refl _) h
theorem red_length (w : W) : (red w).length ≤ w.length := redTo_length _ _
theorem length_inv (w : W) : (inv w).length = w.length := by simp [inv]
theorem mem_inv {w : W} {y : Int} (h : y ∈ inv w) : -y ∈ w := by
  simp [inv] at h
  obtain ⟨a, ha, rfl⟩ := h
  simpa using ha
def dest (t : Tb) (r : Nat) (g : Nat) : Nat := (t.at r (2 * g)).toNat
def nt (t : Tb) (R : List W) (r g : Nat) : Bool :=
  !(decide (R.getD (dest t r g) [] = R.getD r [] ++ [((g + 1 : Nat) : Int)])) && !(decide (R.getD r [] = R.getD (dest t r g) [] ++ [-((g + 1 : Nat) : Int)]))
def pairRow (t : Tb) (R : List W) (r : Nat) (g : Nat) (l : List (Nat × Nat)) : List (Nat × Nat) := foldTo (fun g l => if nt t R r g then l ++ [(r, g)] else l) g l
def pairTo (t : Tb) (R : List W) (gens r : Nat) : List (Nat × Nat) := foldTo (fun r l => pairRow t R r gens l) r []
def pairs (t : Tb) (R : List W) (gens : Nat) : List (Nat × Nat) := pairTo t R gens t.length
def number (t : Tb) (R : List W) (gens r g : Nat) : Int := if nt t R r g then (pairRow t R r (g + 1) (pairTo t R gens r)).length else 0
def schr (t : Tb) (R : List W) (p : Nat × Nat) : W := mulW (R.getD p.1 [] ++ [((p.2 + 1 : Nat) : Int)]) (invW (R.getD (dest t p.1 p.2) []))
def stepW (t : Tb) (r : Nat) (x : Int) : Nat := (t.at r (if 0 < x then (2 * x - 2).toNat else (-2 * x - 1).toNat)).toNat
def letN (t : Tb) (R : List W) (gens r : Nat) (x : Int) : Int :=
  if 0 < x then number t R gens r (x - 1).toNat else -number t R gens (stepW t r x) (-x - 1).toNat
def rwTo (t : Tb) (R : List W) (gens : Nat) (w : W) (r : Nat) (k : Nat) : Nat × W :=
  foldTo (fun k s => (stepW t s.1 (w.getD k 0), if letN t R gens s.1 (w.getD k 0) ≠ 0 then s.2 ++ [letN t R gens s.1 (w.getD k 0)] else s.2)) k (r, [])
def rwW (t : Tb) (R : List W) (gens : Nat) (r : Nat) (w : W) : W := red (rwTo t R gens w r w.length).2
theorem pairRow_length (t : Tb) (R : List W) (r g : Nat) (l : List (Nat × Nat)) : l.length ≤ (pairRow t R r g l).length ∧ (pairRow t R r g l).length ≤ l.length + g := by
  induction g with
  | zero => simp [pairRow, foldTo]
  | succ g ih =>
    unfold pairRow at ih ⊢
    rw [foldTo]
    split
    · simp; omega
    · omega
theorem pairTo_length (t : Tb) (R : List W) (gens r : Nat) : (pairTo t R gens r).length ≤ r * gens := by
  induction r with
  | zero => simp [pairTo, foldTo]
  | succ r ih =>
    have := (pairRow_length t R r gens (pairTo t R gens r)).2
    show (pairRow t R r gens (pairTo t R gens r)).length ≤ (r + 1) * gens
    rw [Nat.add_mul]
    omega
theorem number_bd (t : Tb) (R : List W) (gens r g : Nat) : 0 ≤ number t R gens r g ∧ number t R gens r g ≤ r * gens + g + 1 := by
  unfold number
  split
  · have h1 := (pairRow_length t R r (g + 1) (pairTo t R gens r)).2
    have h2 := pairTo_length t R gens r
    have h3 : (r : Int) * (gens : Int) = ((r * gens : Nat) : Int) := by simp
    rw [h3]
    omega
  · have h3 : (r : Int) * (gens : Int) = ((r * gens : Nat) : Int) := by simp
    rw [h3]
    omega
end Go.Proofs.Ct
namespace Go.Proofs.Ct
def placeP (ps : List (Nat × Nat)) (r g : Nat) : Int := if (r, g) ∈ ps then (ps.idxOf (r, g) : Int) + 1 else 0
theorem pairRow_succ (t : Tb) (R : List W) (r g : Nat) (l : List (Nat × Nat)) : pairRow t R r (g + 1) l = if nt t R r g then pairRow t R r g l ++ [(r, g)] else pairRow t R r g l := rfl
theorem pairTo_succ (t : Tb) (R : List W) (gens r : Nat) : pairTo t R gens (r + 1) = pairRow t R r gens (pairTo t R gens r) := rfl
theorem pairRow_pre (t : Tb) (R : List W) (r g : Nat) (l : List (Nat × Nat)) : l <+: pairRow t R r g l := by
  induction g with
  | zero => exact List.prefix_refl _
  | succ g ih =>
    rw [pairRow_succ]
    split
    · exact ih.trans (List.prefix_append _ _)
    · exact ih
theorem pairRow_mono (t : Tb) (R : List W) (r : Nat) {g g' : Nat} (h : g ≤ g') (l : List (Nat × Nat)) : pairRow t R r g l <+: pairRow t R r g' l := by
  obtain ⟨d, rfl⟩ := Nat.exists_eq_add_of_le h
  clear h
  induction d with
  | zero => exact List.prefix_refl _
  | succ d ih =>
    rw [← Nat.add_assoc, pairRow_succ]
    split
    · exact ih.trans (List.prefix_append _ _)
    · exact ih
theorem pairTo_mono (t : Tb) (R : List W) (gens : Nat) {r r' : Nat} (h : r ≤ r') : pairTo t R gens r <+: pairTo t R gens r' := by
  obtain ⟨d, rfl⟩ := Nat.exists_eq_add_of_le h
  clear h
  induction d with
  | zero => exact List.prefix_refl _
  | succ d ih => exact ih.trans (pairRow_pre _ _ _ _ _)
theorem mem_pairRow {t : Tb} {R : List W} {r : Nat} {l : List (Nat × Nat)} {p : Nat × Nat} : ∀ {g : Nat}, p ∈ pairRow t R r g l → p ∈ l ∨ (p.1 = r ∧ p.2 < g ∧ nt t R r p.2 = true)
  | 0, h => .inl h
  | g + 1, h => by
    rw [pairRow_succ] at h
    split at h
    · rename_i hn
      rcases List.mem_append.1 h with h | h
      · rcases mem_pairRow h with h | ⟨h1, h2, h3⟩
        · exact .inl h
        · exact .inr ⟨h1, by omega, h3⟩
      · have e : p = (r, g) := by simpa using h
        subst e
        exact .inr ⟨rfl, Nat.lt_succ_self g, hn⟩
    · rcases mem_pairRow h with h | ⟨h1, h2, h3⟩
      · exact .inl h
      · exact .inr ⟨h1, by omega, h3⟩
theorem mem_pairTo {t : Tb} {R : List W} {gens : Nat} {p : Nat × Nat} : ∀ {r : Nat}, p ∈ pairTo t R gens r → p.1 < r ∧ p.2 < gens ∧ nt t R p.1 p.2 = true
  | 0, h => by simp [pairTo, foldTo] at h
  | r + 1, h => by
    rcases mem_pairRow h with h | ⟨h1, h2, h3⟩
    · have := mem_pairTo h
      exact ⟨by omega, this.2⟩
    · exact ⟨by omega, h2, by rw [h1]; exact h3⟩
theorem pair_new (t : Tb) (R : List W) (gens r g : Nat) : (r, g) ∉ pairRow t R r g (pairTo t R gens r) := fun h => by
  rcases mem_pairRow h with h | ⟨_, h2, _⟩
  · exact absurd (mem_pairTo h).1 (Nat.lt_irrefl _)
  · exact Nat.lt_irrefl _ h2
theorem place_pre {l o : List (Nat × Nat)} (h : l <+: o) {p : Nat × Nat} (hp : p ∈ l) : o.idxOf p = l.idxOf p := by
  obtain ⟨m, rfl⟩ := h
  rw [List.idxOf_append, if_pos hp]
theorem place_number {t : Tb} {R : List W} {gens n r g : Nat} (hr : r < n) (hg : g < gens) : placeP (pairTo t R gens n) r g = number t R gens r g := by
  unfold placeP number
  have hpre : pairRow t R r (g + 1) (pairTo t R gens r) <+: pairTo t R gens n := (pairRow_mono t R r (by omega : g + 1 ≤ gens) _).trans (pairTo_mono t R gens (by omega : r + 1 ≤ n))
  by_cases hn : nt t R r g = true
  · rw [if_pos hn]
    rw [pairRow_succ, if_pos hn] at hpre ⊢
    have hin : (r, g) ∈ pairRow t R r g (pairTo t R gens r) ++ [(r, g)] := by simp
    rw [if_pos (hpre.subset hin), place_pre hpre hin, List.idxOf_append, if_neg (pair_new t R gens r g)]
    simp
  · rw [if_neg hn, if_neg]
    intro hm
    exact hn (mem_pairTo hm).2.2
theorem pairs_length (t : Tb) (R : List W) (gens : Nat) : (pairs t R gens).length ≤ t.length * gens := pairTo_length _ _ _ _
theorem pairs_mem {t : Tb} {R : List W} {gens : Nat} {p : Nat × Nat} (h : p ∈ pairs t R gens) : p.1 < t.length ∧ p.2 < gens := ⟨(mem_pairTo h).1, (mem_pairTo h).2.1⟩
end Go.Proofs.Ct
namespace Go.Proofs.Ct
theorem mem_repCol {t : Tb} {r c : Nat} {out : List W} {w : W} (h : w ∈ repCol t r c out) : w ∈ out ∨ w = out.getD r [] ++ [letter c] := by
  unfold repCol at h
  split at h
  · simpa using h
  · exact .inl h
theorem getD_mem_or {out : List W} {r : Nat} : out.getD r [] ∈ out ∨ out.getD r [] = [] := by
  rw [List.getD_eq_getElem?_getD]
  rcases Nat.lt_or_ge r out.length with h | h
  · rw [List.getElem?_eq_getElem h]; exact .inl (List.getElem_mem h)
  · rw [List.getElem?_eq_none h]; exact .inr rfl
def Lets (N : Nat) (out : List W) : Prop := ∀ w ∈ out, ∀ x ∈ w, ∃ c, c < N ∧ x = letter c
theorem Lets.col {t : Tb} {N r c : Nat} {out : List W} (h : Lets N out) (hc : c < N) : Lets N (repCol t r c out) := fun w hw x hx => by
  rcases mem_repCol hw with hw | rfl
  · exact h w hw x hx
  · rcases List.mem_append.1 hx with hx | hx
    · rcases @getD_mem_or out r with h1 | h1
      · exact h _ h1 x hx
      · rw [h1] at hx; cases hx
    · exact ⟨c, hc, by simpa using hx⟩
theorem Lets.row {t : Tb} {N r : Nat} {out : List W} (h : Lets N out) (hl : (t.row r).length ≤ N) : Lets N (repRow t r out) :=
  foldTo_inv (p := fun _ out => Lets N out) h _ fun c x hc hx => hx.col (by omega)
theorem reps_lets {g : Nat} {t : Tb} (hg : TGood g t) : Lets (2 * g) (reps t) :=
  foldTo_inv (p := fun _ out => Lets (2 * g) out) (fun w hw x hx => by
    have : w = [] := by simpa using hw
    subst this; cases hx) _ fun r x hr hx => hx.row (by rw [hg.len r hr]; exact Nat.le_refl _)
theorem letter_range {g c : Nat} (h : c < 2 * g) : -(g : Int) ≤ letter c ∧ letter c ≤ g ∧ letter c ≠ 0 := by
  unfold letter
  split <;> omega
theorem reps_letter {g : Nat} {t : Tb} (hg : TGood g t) (j : Nat) : ∀ x ∈ (reps t).getD j [], -(g : Int) ≤ x ∧ x ≤ g ∧ x ≠ 0 := fun x hx => by
  rcases @getD_mem_or (reps t) j with h | h
  · obtain ⟨c, hc, rfl⟩ := reps_lets hg _ h x hx
    exact letter_range hc
  · rw [h] at hx; cases hx
end Go.Proofs.Ct
namespace Go.Proofs.Ct
def solid (l : List W) : List W := l.filter fun w => decide (0 < w.length)
def relRow (t : Tb) (R : List W) (g : Nat) (rels : List W) (r k : Nat) : List W := solid ((List.range k).map fun i => rwW t R g r (rels.getD i []))
def relTo (t : Tb) (R : List W) (g : Nat) (rels : List W) (r : Nat) : List W := (List.range r).flatMap fun r => relRow t R g rels r rels.length
def relAt (t : Tb) (R : List W) (g : Nat) (rels : List W) (r k : Nat) : List W := relTo t R g rels r ++ relRow t R g rels r k
def lens (l : List W) : Nat := (l.map List.length).sum
def tooLong (l : List W) : Bool := decide (100 < l.length) || decide (4000 < lens l)
theorem relRow_succ (t : Tb) (R : List W) (g : Nat) (rels : List W) (r k : Nat) : relRow t R g rels r (k + 1) = if 0 < (rwW t R g r (rels.getD k [])).length then relRow t R g rels r k ++ [rwW t R g r (rels.getD k [])] else relRow t R g rels r k := by
  unfold relRow solid
  rw [List.range_succ, List.map_append, List.filter_append]
  simp only [List.map_cons, List.map_nil, List.filter_cons, List.filter_nil, decide_eq_true_eq]
  split <;> simp
theorem relAt_succ (t : Tb) (R : List W) (g : Nat) (rels : List W) (r k : Nat) : relAt t R g rels r (k + 1) = if 0 < (rwW t R g r (rels.getD k [])).length then relAt t R g rels r k ++ [rwW t R g r (rels.getD k [])] else relAt t R g rels r k := by
  unfold relAt
  rw [relRow_succ]
  split <;> simp
theorem relAt_zero (t : Tb) (R : List W) (g : Nat) (rels : List W) (r : Nat) : relAt t R g rels r 0 = relTo t R g rels r := by simp [relAt, relRow, solid]
theorem relTo_succ (t : Tb) (R : List W) (g : Nat) (rels : List W) (r : Nat) : relTo t R g rels (r + 1) = relAt t R g rels r rels.length := by
  unfold relTo relAt relTo
  rw [List.range_succ, List.flatMap_append]
  simp
theorem lens_append (a b : List W) : lens (a ++ b) = lens a + lens b := by simp [lens]
theorem lens_one (w : W) : lens [w] = w.length := by simp [lens]
theorem solid_pre {a b : List W} (h : a <+: b) : solid a <+: solid b := by
  obtain ⟨c, rfl⟩ := h
  exact ⟨solid c, by simp [solid]⟩
theorem relRow_pre (t : Tb) (R : List W) (g : Nat) (rels : List W) (r : Nat) {k m : Nat} (h : k ≤ m) : relRow t R g rels r k <+: relRow t R g rels r m := by
  refine solid_pre ⟨((List.range' k (m - k)).map fun i => rwW t R g r (rels.getD i [])), ?_⟩
  rw [← List.map_append]
  congr 1
  rw [List.range_eq_range', List.range_eq_range']
  have := @List.range'_append 0 k (m - k) 1
  simpa [show k + (m - k) = m by omega] using this
theorem relTo_pre (t : Tb) (R : List W) (g : Nat) (rels : List W) {r n : Nat} (h : r ≤ n) : relTo t R g rels r <+: relTo t R g rels n := by
  induction n with
  | zero => rw [show r = 0 by omega]; exact List.prefix_rfl
  | succ n ih =>
    by_cases e : r = n + 1
    · rw [e]; exact List.prefix_rfl
    · refine (ih (by omega)).trans ?_
      rw [relTo_succ]
      exact ⟨_, rfl⟩
theorem relAt_pre (t : Tb) (R : List W) (g : Nat) (rels : List W) {r n k : Nat} (h : r < n) (hk : k ≤ rels.length) : relAt t R g rels r k <+: relTo t R g rels n := by
  refine List.IsPrefix.trans ?_ (relTo_pre t R g rels (show r + 1 ≤ n from h))
  rw [relTo_succ]
  obtain ⟨c, hc⟩ := relRow_pre t R g rels r hk
  exact ⟨c, by unfold relAt; rw [← hc]; simp⟩
theorem tooLong_pre {a b : List W} (h : a <+: b) (hl : tooLong a = true) : tooLong b = true := by
  obtain ⟨c, rfl⟩ := h
  unfold tooLong at hl ⊢
  simp only [Bool.or_eq_true, decide_eq_true_eq, lens_append, List.length_append] at hl ⊢
  omega
theorem tooLong_false {a : List W} : tooLong a = false ↔ a.length ≤ 100 ∧ lens a ≤ 4000 := by
  unfold tooLong
  simp only [Bool.or_eq_false_iff, decide_eq_false_iff_not]
  omega
theorem tooLong_true {a : List W} : tooLong a = true ↔ 100 < a.length ∨ 4000 < lens a := by
  unfold tooLong
  simp only [Bool.or_eq_true, decide_eq_true_eq]
def col (x : Int) : Nat := if 0 < x then (2 * x - 2).toNat else (-2 * x - 1).toNat
def leadTo (t : Tb) (r : Int) (w : W) (k : Nat) : Int := foldTo (fun k r => if r < 0 then r else t.at r.toNat (col (w.getD k 0))) k r
def leads (t : Tb) (r : Int) (w : W) : Int := leadTo t r w w.length
def staysB (t : Tb) (r : Int) (l : List W) : Bool := l.all fun w => decide (leads t r w = r)
def holdsB (rels sub : List W) (t : Tb) : Bool := complete t && staysB t 0 sub && (List.range t.length).all fun r => staysB t (r : Int) rels
theorem leadTo_succ (t : Tb) (r : Int) (w : W) (k : Nat) : leadTo t r w (k + 1) = if leadTo t r w k < 0 then leadTo t r w k else t.at (leadTo t r w k).toNat (col (w.getD k 0)) := rfl
theorem leadTo_neg {t : Tb} {r : Int} {w : W} {k : Nat} (h : leadTo t r w k < 0) : ∀ m, leadTo t r w (k + m) = leadTo t r w k
  | 0 => rfl
  | m + 1 => by
    have := leadTo_neg h m
    rw [← Nat.add_assoc, leadTo_succ, this, if_pos h]
theorem leads_neg {t : Tb} {r : Int} {w : W} {k : Nat} (hk : k ≤ w.length) (h : leadTo t r w k < 0) : leads t r w < 0 := by
  have := leadTo_neg h (w.length - k)
  unfold leads
  rw [show k + (w.length - k) = w.length by omega] at this
  omega
end Go.Proofs.Ct
namespace Go.Proofs.Ct
def set2 (t : Tb) (r c : Nat) (v : Int) : Tb := t.set r ((t.row r).set c v)
theorem length_set2 (t : Tb) (r c : Nat) (v : Int) : (set2 t r c v).length = t.length := by simp [set2]
theorem row_set2 (t : Tb) (r c : Nat) (v : Int) (k : Nat) : (set2 t r c v).row k = if r = k ∧ r < t.length then (t.row r).set c v else t.row k := by
  unfold set2 Tb.row
  rw [List.getD_eq_getElem?_getD, List.getElem?_set]
  by_cases h : r = k
  · subst h
    by_cases h2 : r < t.length
    · simp [h2]
    · simp [h2, List.getD_eq_getElem?_getD]
  · simp [h, List.getD_eq_getElem?_getD]
theorem rowlen_set2 (t : Tb) (r c : Nat) (v : Int) (k : Nat) : ((set2 t r c v).row k).length = (t.row k).length := by
  rw [row_set2]
  split
  · rename_i h; rw [← h.1]; simp
  · rfl
theorem at_set2 (t : Tb) (r c : Nat) (v : Int) (k j : Nat) : (set2 t r c v).at k j = if r = k ∧ c = j ∧ r < t.length ∧ c < (t.row r).length then v else t.at k j := by
  unfold Tb.at
  rw [row_set2]
  by_cases h : r = k ∧ r < t.length
  · rw [if_pos h]
    obtain ⟨rfl, hr⟩ := h
    rw [List.getD_eq_getElem?_getD, List.getElem?_set]
    by_cases hc : c = j
    · subst hc
      by_cases hl : c < (t.row r).length
      · simp [hl, hr]
      · simp [hl, List.getD_eq_getElem?_getD]
    · simp [hc, List.getD_eq_getElem?_getD]
  · rw [if_neg h, if_neg (fun h' => h ⟨h'.1, h'.2.2.1⟩)]
theorem flp_flp (c : Nat) : flp (flp c) = c := by unfold flp; split <;> split <;> omega
theorem flp_ne (c : Nat) : flp c ≠ c := by unfold flp; split <;> omega
theorem flp_lt2 {c g : Nat} (h : c < 2 * g) : flp c < 2 * g := by unfold flp; split <;> omega
structure St where
  t : Tb
  rep : List Nat
  q : List Nat
  live : Int
  most : Int
def St.rp (s : St) (x : Nat) : Nat := s.rep.getD x 0
def mergeS (s : St) (a b : Nat) : St :=
  if s.rp a = s.rp b then s else { s with rep := s.rep.map fun x => if x = max (s.rp a) (s.rp b) then min (s.rp a) (s.rp b) else x, q := s.q ++ [max (s.rp a) (s.rp b)], live := s.live - 1 }
def joinT (t : Tb) (r c d : Nat) : Tb := set2 (set2 t r c (d : Int)) d (flp c) (r : Int)
def cutT (t : Tb) (e c : Nat) : Tb := set2 (set2 t e c (-1)) (t.at e c).toNat (flp c) (-1)
def stepS (e c : Nat) (s : St) : St :=
  if s.t.at e c < 0 then s else
  if 0 ≤ (cutT s.t e c).at (s.rp e) c then mergeS { s with t := cutT s.t e c } ((cutT s.t e c).at (s.rp e) c).toNat (s.rp (s.t.at e c).toNat) else
  if 0 ≤ (cutT s.t e c).at (s.rp (s.t.at e c).toNat) (flp c) then mergeS { s with t := cutT s.t e c } ((cutT s.t e c).at (s.rp (s.t.at e c).toNat) (flp c)).toNat (s.rp e) else
  { s with t := joinT (cutT s.t e c) (s.rp e) c (s.rp (s.t.at e c).toNat) }
def procTo (e : Nat) (c : Nat) (s : St) : St := foldTo (stepS e) c s
def coinTo (m k : Nat) (s : St) : St := foldTo (fun k s => if k < s.q.length then procTo (s.q.getD k 0) m s else s) k s
def coinS (m : Nat) (s : St) (a b : Nat) : St := coinTo m s.t.length (mergeS { s with q := [] } a b)
structure Inv (g : Nat) (s : St) : Prop where
  len : ∀ r, r < s.t.length → (s.t.row r).length = 2 * g
  bd : ∀ r, r < s.t.length → ∀ c, c < 2 * g → -1 ≤ s.t.at r c ∧ s.t.at r c < s.t.length
  rl : s.rep.length = s.t.length
  rle : ∀ x, x < s.t.length → s.rp x ≤ x
  rid : ∀ x, x < s.t.length → s.rp (s.rp x) = s.rp x
  back : ∀ r, r < s.t.length → ∀ c, c < 2 * g → 0 ≤ s.t.at r c → s.t.at (s.t.at r c).toNat (flp c) = r
theorem Inv.rlt {g : Nat} {s : St} (h : Inv g s) {x : Nat} (hx : x < s.t.length) : s.rp x < s.t.length := Nat.lt_of_le_of_lt (h.rle x hx) hx
def Edge (t : Tb) (x c y : Nat) : Prop := t.at x c = (y : Int)
structure Cov (g : Nat) (s0 s : St) : Prop where
  n : s.t.length = s0.t.length
  coarse : ∀ x, x < s0.t.length → s.rp (s0.rp x) = s.rp x
  edge : ∀ x c y, x < s0.t.length → c < 2 * g → Edge s0.t x c y → ∃ u v, u < s0.t.length ∧ v < s0.t.length ∧ Edge s.t u c v ∧ s.rp u = s.rp x ∧ s.rp v = s.rp y
theorem Edge.lt {g : Nat} {s : St} (h : Inv g s) {x c y : Nat} (hx : x < s.t.length) (hc : c < 2 * g) (he : Edge s.t x c y) : y < s.t.length := by
  have := (h.bd x hx c hc).2
  rw [he] at this
  omega
theorem Edge.back {g : Nat} {s : St} (h : Inv g s) {x c y : Nat} (hx : x < s.t.length) (hc : c < 2 * g) (he : Edge s.t x c y) : Edge s.t y (flp c) x := by
  have := h.back x hx c hc (by rw [he]; omega)
  rw [he] at this
  unfold Edge
  simpa using this
theorem Cov.refl {g : Nat} {s : St} (h : Inv g s) : Cov g s s := ⟨rfl, fun x hx => h.rid x hx, fun x _c y hx hc he => ⟨x, y, hx, he.lt h hx hc, he, rfl, rfl⟩⟩
theorem Cov.trans {g : Nat} {a b c : St} (ha : Inv g a) (h1 : Cov g a b) (h2 : Cov g b c) : Cov g a c := by
  have hsame : ∀ x y, x < a.t.length → y < a.t.length → b.rp x = b.rp y → c.rp x = c.rp y := fun x y hx hy e => by
    rw [← h2.coarse x (by rw [h1.n]; exact hx), ← h2.coarse y (by rw [h1.n]; exact hy), e]
  refine ⟨h2.n.trans h1.n, fun x hx => ?_, fun x k y hx hk he => ?_⟩
  · have hr := ha.rlt hx
    exact hsame _ _ hr hx (h1.coarse x hx)
  · have hy := he.lt ha hx hk
    obtain ⟨u, v, hu, hv, e1, e2, e3⟩ := h1.edge x k y hx hk he
    obtain ⟨u', v', hu', hv', f1, f2, f3⟩ := h2.edge u k v (by rw [h1.n]; exact hu) hk e1
    rw [h1.n] at hu' hv'
    exact ⟨u', v', hu', hv', f1, f2.trans (hsame _ _ hu hx e2), f3.trans (hsame _ _ hv hy e3)⟩
theorem rp_merge {g : Nat} {s : St} (h : Inv g s) {a b x : Nat} (_ha : a < s.t.length) (_hb : b < s.t.length) (hx : x < s.t.length) : (mergeS s a b).rp x = if s.rp x = max (s.rp a) (s.rp b) then min (s.rp a) (s.rp b) else s.rp x := by
  unfold mergeS
  split
  · rename_i e
    rw [e, Nat.max_self, Nat.min_self]
    split
    · rename_i e2; exact e2
    · rfl
  · unfold St.rp
    simp only
    have hl : x < s.rep.length := by rw [h.rl]; exact hx
    simp [List.getD_eq_getElem?_getD, hl]
theorem t_merge (s : St) (a b : Nat) : (mergeS s a b).t = s.t := by unfold mergeS; split <;> rfl
theorem Inv.merge {g : Nat} {s : St} (h : Inv g s) {a b : Nat} (ha : a < s.t.length) (hb : b < s.t.length) : Inv g (mergeS s a b) := by
  have ht := t_merge s a b
  have hra := h.rid a ha
  have hrb := h.rid b hb
  have hla := h.rle a ha
  have hlb := h.rle b hb
  refine ⟨by rw [ht]; exact h.len, by rw [ht]; exact h.bd, ?_, fun x hx => ?_, fun x hx => ?_, by rw [ht]; exact h.back⟩
  · rw [ht]
    unfold mergeS
    split
    · exact h.rl
    · simpa using h.rl
  · rw [ht] at hx
    rw [rp_merge h ha hb hx]
    have := h.rle x hx
    split <;> omega
  · rw [ht] at hx
    have hx1 := h.rlt hx
    have hr := h.rid x hx
    rw [rp_merge h ha hb hx]
    by_cases e : s.rp x = max (s.rp a) (s.rp b)
    · rw [if_pos e]
      have hmin : min (s.rp a) (s.rp b) < s.t.length := by omega
      have hmr : s.rp (min (s.rp a) (s.rp b)) = min (s.rp a) (s.rp b) := by
        rcases Nat.le_total (s.rp a) (s.rp b) with h' | h'
        · rw [Nat.min_eq_left h']; exact hra
        · rw [Nat.min_eq_right h']; exact hrb
      rw [rp_merge h ha hb hmin, hmr]
      split
      · rfl
      · rfl
    · rw [if_neg e, rp_merge h ha hb hx1, hr, if_neg e]
theorem Cov.merge {g : Nat} {s : St} (h : Inv g s) {a b : Nat} (ha : a < s.t.length) (hb : b < s.t.length) : Cov g s (mergeS s a b) ∧ (mergeS s a b).rp a = (mergeS s a b).rp b := by
  refine ⟨⟨by rw [t_merge], fun x hx => ?_, fun x c y hx hc he => ⟨x, y, hx, he.lt h hx hc, by rw [t_merge]; exact he, rfl, rfl⟩⟩, ?_⟩
  · rw [rp_merge h ha hb hx, rp_merge h ha hb (h.rlt hx), h.rid x hx]
  · rw [rp_merge h ha hb ha, rp_merge h ha hb hb]
    split <;> split <;> omega
end Go.Proofs.Ct
namespace Go.Proofs.Ct
section
variable {g : Nat} {s : St}
theorem at_cut (h : Inv g s) {e c : Nat} (he : e < s.t.length) (hc : c < 2 * g) (_hd : 0 ≤ s.t.at e c) (k j : Nat) :
    (cutT s.t e c).at k j = if (k = e ∧ j = c) ∨ (k = (s.t.at e c).toNat ∧ j = flp c) then -1 else s.t.at k j := by
  have hb := h.bd e he c hc
  have hdn : (s.t.at e c).toNat < s.t.length := by omega
  unfold cutT
  rw [at_set2, at_set2, length_set2, rowlen_set2, h.len _ he, h.len _ hdn]
  have hf := flp_lt2 hc
  by_cases h1 : (s.t.at e c).toNat = k ∧ flp c = j
  · rw [if_pos ⟨h1.1, h1.2, hdn, hf⟩, if_pos (.inr ⟨h1.1.symm, h1.2.symm⟩)]
  · rw [if_neg (fun h' => h1 ⟨h'.1, h'.2.1⟩)]
    by_cases h2 : e = k ∧ c = j
    · rw [if_pos ⟨h2.1, h2.2, he, hc⟩, if_pos (.inl ⟨h2.1.symm, h2.2.symm⟩)]
    · rw [if_neg (fun h' => h2 ⟨h'.1, h'.2.1⟩), if_neg]
      rintro (h' | h')
      · exact h2 ⟨h'.1.symm, h'.2.symm⟩
      · exact h1 ⟨h'.1.symm, h'.2.symm⟩
theorem length_cut (t : Tb) (e c : Nat) : (cutT t e c).length = t.length := by simp [cutT, length_set2]
theorem rowlen_cut (t : Tb) (e c k : Nat) : ((cutT t e c).row k).length = (t.row k).length := by simp [cutT, rowlen_set2]
theorem Inv.cut (h : Inv g s) {e c : Nat} (he : e < s.t.length) (hc : c < 2 * g) (hd : 0 ≤ s.t.at e c) : Inv g { s with t := cutT s.t e c } := by
  have hdn : (s.t.at e c).toNat < s.t.length := by have := h.bd e he c hc; omega
  have hbk := h.back e he c hc hd
  refine ⟨fun r hr => ?_, fun r hr k hk => ?_, ?_, fun x hx => h.rle x (by simpa [length_cut] using hx), fun x hx => h.rid x (by simpa [length_cut] using hx), fun r hr k hk h0 => ?_⟩
  · rw [rowlen_cut]; exact h.len r (by simpa [length_cut] using hr)
  · simp only [length_cut] at hr ⊢
    rw [at_cut h he hc hd]
    have := h.bd r hr k hk
    split
    · omega
    · exact this
  · simp only [length_cut]; exact h.rl
  · simp only [length_cut] at hr
    simp only at h0 ⊢
    rw [at_cut h he hc hd r k] at h0 ⊢
    by_cases hx : (r = e ∧ k = c) ∨ (r = (s.t.at e c).toNat ∧ k = flp c)
    · rw [if_pos hx] at h0; omega
    · rw [if_neg hx] at h0 ⊢
      rw [at_cut h he hc hd, if_neg]
      · exact h.back r hr k hk h0
      · have hb := h.back r hr k hk h0
        rintro (⟨h1, h2⟩ | ⟨h1, h2⟩)
        · rw [h1, h2] at hb
          exact hx (.inr ⟨by omega, by rw [← h2, flp_flp]⟩)
        · have hkc : k = c := by rw [← flp_flp k, h2, flp_flp]
          rw [h1, h2, hbk] at hb
          exact hx (.inl ⟨by omega, hkc⟩)
theorem at_join (h : Inv g s) {u v c : Nat} (hu : u < s.t.length) (hv : v < s.t.length) (hc : c < 2 * g) (k j : Nat) :
    (joinT s.t u c v).at k j = if k = v ∧ j = flp c then (u : Int) else if k = u ∧ j = c then (v : Int) else s.t.at k j := by
  have hf := flp_lt2 hc
  unfold joinT
  rw [at_set2, at_set2, length_set2, rowlen_set2, h.len _ hu, h.len _ hv]
  by_cases h1 : k = v ∧ j = flp c
  · rw [if_pos ⟨h1.1.symm, h1.2.symm, hv, hf⟩, if_pos h1]
  · rw [if_neg (fun h' => h1 ⟨h'.1.symm, h'.2.1.symm⟩), if_neg h1]
    by_cases h2 : k = u ∧ j = c
    · rw [if_pos ⟨h2.1.symm, h2.2.symm, hu, hc⟩, if_pos h2]
    · rw [if_neg (fun h' => h2 ⟨h'.1.symm, h'.2.1.symm⟩), if_neg h2]
theorem length_join (t : Tb) (u c v : Nat) : (joinT t u c v).length = t.length := by simp [joinT, length_set2]
theorem rowlen_join (t : Tb) (u c v k : Nat) : ((joinT t u c v).row k).length = (t.row k).length := by simp [joinT, rowlen_set2]
theorem Inv.join (h : Inv g s) {u v c : Nat} (hu : u < s.t.length) (hv : v < s.t.length) (hc : c < 2 * g) (h1 : s.t.at u c < 0) (h2 : s.t.at v (flp c) < 0) : Inv g { s with t := joinT s.t u c v } := by
  refine ⟨fun r hr => ?_, fun r hr k hk => ?_, ?_, fun x hx => h.rle x (by simpa [length_join] using hx), fun x hx => h.rid x (by simpa [length_join] using hx), fun r hr k hk h0 => ?_⟩
  · rw [rowlen_join]; exact h.len r (by simpa [length_join] using hr)
  · simp only [length_join] at hr ⊢
    rw [at_join h hu hv hc]
    have := h.bd r hr k hk
    split
    · omega
    · split
      · omega
      · exact this
  · simp only [length_join]; exact h.rl
  · simp only [length_join] at hr
    simp only at h0 ⊢
    have hne := flp_ne c
    rw [at_join h hu hv hc r k] at h0 ⊢
    by_cases e1 : r = v ∧ k = flp c
    · rw [if_pos e1, Int.toNat_natCast, at_join h hu hv hc, e1.2, flp_flp, if_neg (fun h' => hne h'.2.symm), if_pos ⟨rfl, rfl⟩, e1.1]
    · rw [if_neg e1] at h0 ⊢
      by_cases e2 : r = u ∧ k = c
      · rw [if_pos e2, Int.toNat_natCast, at_join h hu hv hc, if_pos ⟨rfl, by rw [e2.2]⟩, e2.1]
      · rw [if_neg e2] at h0 ⊢
        have hb := h.back r hr k hk h0
        rw [at_join h hu hv hc, if_neg, if_neg]
        · exact hb
        · rintro ⟨h', h''⟩
          rw [h', h''] at hb
          omega
        · rintro ⟨h', h''⟩
          rw [h', h''] at hb
          omega
theorem step_cov (h : Inv g s) {e c : Nat} (he : e < s.t.length) (hc : c < 2 * g) : Inv g (stepS e c s) ∧ Cov g s (stepS e c s) := by
  unfold stepS
  by_cases hd : s.t.at e c < 0
  · rw [if_pos hd]
    exact ⟨h, Cov.refl h⟩
  · rw [if_neg hd]
    have hd' : 0 ≤ s.t.at e c := by omega
    obtain ⟨d, hdd⟩ := Int.eq_ofNat_of_zero_le hd'
    have hdn : d < s.t.length := by have := h.bd e he c hc; omega
    have hcut := h.cut he hc hd'
    have hat := at_cut h he hc hd'
    have hbk : s.t.at d (flp c) = (e : Int) := by have := h.back e he c hc hd'; rw [hdd] at this; simpa using this
    rw [hdd, Int.toNat_natCast] at hat ⊢
    have hun := h.rlt he
    have hvn := h.rlt hdn
    have hlen := length_cut s.t e c
    have hf := flp_lt2 hc
    generalize hs1 : ({ s with t := cutT s.t e c } : St) = s1 at *
    have ht1 : s1.t = cutT s.t e c := by rw [← hs1]
    have hrp1 : ∀ x, s1.rp x = s.rp x := fun x => by rw [← hs1]; rfl
    have hn1 : s1.t.length = s.t.length := by rw [ht1, hlen]
    rw [← ht1] at hat ⊢
    -- edges that are not cut
    have hkeep : ∀ x k y, x < s.t.length → k < 2 * g → Edge s.t x k y → ¬ ((x = e ∧ k = c) ∨ (x = d ∧ k = flp c)) → Edge s1.t x k y := fun x k y hx hk hE hn => by
      unfold Edge
      rw [hat, if_neg hn]
      exact hE
    have hcov0 : ∀ s2 : St, Cov g s1 s2 → (∀ u v : Nat, u < s.t.length → v < s.t.length → True) →
        (∃ u v, u < s.t.length ∧ v < s.t.length ∧ Edge s2.t u c v ∧ s2.rp u = s2.rp e ∧ s2.rp v = s2.rp d) → (∃ u v, u < s.t.length ∧ v < s.t.length ∧ Edge s2.t u (flp c) v ∧ s2.rp u = s2.rp d ∧ s2.rp v = s2.rp e) → Cov g s s2 := fun s2 h2 _ ha hb => by
      refine ⟨h2.n.trans hn1, fun x hx => ?_, fun x k y hx hk hE => ?_⟩
      · rw [← hrp1 x]; exact h2.coarse x (by rw [hn1]; exact hx)
      · by_cases h3 : (x = e ∧ k = c) ∨ (x = d ∧ k = flp c)
        · rcases h3 with ⟨rfl, rfl⟩ | ⟨rfl, rfl⟩
          · obtain rfl : y = d := by unfold Edge at hE; omega
            exact ha
          · obtain rfl : y = e := by unfold Edge at hE; omega
            exact hb
        · obtain ⟨u, v, h4, h5, h6⟩ := h2.edge x k y (by rw [hn1]; exact hx) hk (hkeep x k y hx hk hE h3)
          rw [hn1] at h4 h5
          exact ⟨u, v, h4, h5, h6⟩
    have hce : ∀ (s2 : St), Cov g s1 s2 → ∀ x, x < s.t.length → s2.rp (s.rp x) = s2.rp x := fun s2 h2 x hx => by
      have := h2.coarse x (by omega)
      rwa [hrp1] at this
    by_cases h1 : 0 ≤ s1.t.at (s.rp e) c
    · rw [if_pos h1]
      obtain ⟨w, hw⟩ := Int.eq_ofNat_of_zero_le h1
      have hE1 : Edge s1.t (s.rp e) c w := hw
      have hwn : w < s.t.length := by have := hE1.lt hcut (by rw [hn1]; exact hun) hc; omega
      have hE2 := hE1.back hcut (by rw [hn1]; exact hun) hc
      rw [hw, Int.toNat_natCast]
      have hI := hcut.merge (a := w) (b := s.rp d) (by omega) (by omega)
      obtain ⟨hC, hm⟩ := Cov.merge hcut (a := w) (b := s.rp d) (by omega) (by omega)
      refine ⟨hI, hcov0 _ hC (fun _ _ _ _ => trivial) ⟨s.rp e, w, hun, hwn, by rw [t_merge]; exact hE1, ?_, ?_⟩ ⟨w, s.rp e, hwn, hun, by rw [t_merge]; exact hE2, ?_, ?_⟩⟩
      · exact hce _ hC e he
      · rw [hm]; exact hce _ hC d hdn
      · rw [hm]; exact hce _ hC d hdn
      · exact hce _ hC e he
    · rw [if_neg h1]
      by_cases h2 : 0 ≤ s1.t.at (s.rp d) (flp c)
      · rw [if_pos h2]
        obtain ⟨w, hw⟩ := Int.eq_ofNat_of_zero_le h2
        have hE1 : Edge s1.t (s.rp d) (flp c) w := hw
        have hwn : w < s.t.length := by have := hE1.lt hcut (by rw [hn1]; exact hvn) hf; omega
        have hE2 := hE1.back hcut (by rw [hn1]; exact hvn) hf
        rw [flp_flp] at hE2
        rw [hw, Int.toNat_natCast]
        have hI := hcut.merge (a := w) (b := s.rp e) (by omega) (by omega)
        obtain ⟨hC, hm⟩ := Cov.merge hcut (a := w) (b := s.rp e) (by omega) (by omega)
        refine ⟨hI, hcov0 _ hC (fun _ _ _ _ => trivial) ⟨w, s.rp d, hwn, hvn, by rw [t_merge]; exact hE2, ?_, ?_⟩ ⟨s.rp d, w, hvn, hwn, by rw [t_merge]; exact hE1, ?_, ?_⟩⟩
        · rw [hm]; exact hce _ hC e he
        · exact hce _ hC d hdn
        · exact hce _ hC d hdn
        · rw [hm]; exact hce _ hC e he
      · rw [if_neg h2]
        have hI := hcut.join (u := s.rp e) (v := s.rp d) (c := c) (by omega) (by omega) hc (by omega) (by omega)
        have haj := at_join hcut (u := s.rp e) (v := s.rp d) (c := c) (by omega) (by omega) hc
        have hs2 : ({ s with t := joinT s1.t (s.rp e) c (s.rp d) } : St) = { s1 with t := joinT s1.t (s.rp e) c (s.rp d) } := by rw [← hs1]
        rw [hs2]
        have hrp2 : ∀ x, ({ s1 with t := joinT s1.t (s.rp e) c (s.rp d) } : St).rp x = s.rp x := fun x => hrp1 x
        have hC : Cov g s1 { s1 with t := joinT s1.t (s.rp e) c (s.rp d) } := ⟨by simp [length_join], fun x hx => hcut.rid x hx, fun x k y hx hk hE => ⟨x, y, hx, hE.lt hcut hx hk, by
          unfold Edge at hE ⊢
          simp only
          rw [haj, if_neg, if_neg]
          · exact hE
          · rintro ⟨rfl, rfl⟩; omega
          · rintro ⟨rfl, rfl⟩; omega, rfl, rfl⟩⟩
        refine ⟨hI, hcov0 _ hC (fun _ _ _ _ => trivial) ⟨s.rp e, s.rp d, hun, hvn, ?_, ?_, ?_⟩ ⟨s.rp d, s.rp e, hvn, hun, ?_, ?_, ?_⟩⟩
        · unfold Edge
          simp only
          rw [haj, if_neg (fun h' => flp_ne c h'.2.symm), if_pos ⟨rfl, rfl⟩]
        · rw [hrp2, hrp2]; exact h.rid e he
        · rw [hrp2, hrp2]; exact h.rid d hdn
        · unfold Edge
          simp only
          rw [haj, if_pos ⟨rfl, rfl⟩]
        · rw [hrp2, hrp2]; exact h.rid d hdn
        · rw [hrp2, hrp2]; exact h.rid e he
end
end Go.Proofs.Ct
