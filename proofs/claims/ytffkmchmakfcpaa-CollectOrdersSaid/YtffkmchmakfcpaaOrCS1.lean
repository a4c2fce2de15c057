/- Coset tables, plainly: check, the standard table, representatives. No program in sight; Coset tables, plainly: the order of a table, standard tables, the lengths of representatives; Words and Schreier systems, plainly; The letters of representatives; Presentations of subgroups, plainly: which relators, in which order, and when they are too long; Coset enumeration, plainly: states, coincidences, and what they keep. No program in sight; Coset enumeration, plainly: a coincidence keeps the edges, and empties the rows of the dead; Coset enumeration, plainly: the queue of a coincidence, and what stands behind it. -/
namespace Go.Proofs.Ct
def foldTo {α : Type} (f : Nat → α → α) : Nat → α → α
  | 0, x => x
  | k + 1, x => f k (foldTo f k x)
theorem foldTo_inv {α : Type} {f : Nat → α → α} {p : Nat → α → Prop} {x : α} (h0 : p 0 x) : ∀ (n : Nat) (_ : ∀ k x, k < n → p k x → p (k + 1) (f k x)), p n (foldTo f n x)
  | 0, _ => h0
  | n + 1, hf => hf n _ (Nat.lt_succ_self n) (foldTo_inv h0 n (fun k x hk hx => hf k x (Nat.lt_succ_of_lt hk) hx))
abbrev Tb := List (List Int)
def Tb.row (t : Tb) (r : Nat) : List Int := t.getD r []
def Tb.at (t : Tb) (r c : Nat) : Int := (t.row r).getD c 0
/-- the first k below n with p -/
def first (p : Nat → Bool) (n : Nat) : Option Nat := (List.range n).find? p
theorem first_some {p : Nat → Bool} {n k : Nat} (hk : k < n) (hp : p k = true) (hb : ∀ j, j < k → p j = false) : first p n = some k := by
  unfold first
  rw [List.find?_range_eq_some]
  exact ⟨hp, by simpa using hk, fun j hj => by simp [hb j hj]⟩
theorem first_none {p : Nat → Bool} {n : Nat} (hb : ∀ j, j < n → p j = false) : first p n = none := by
  unfold first
  rw [List.find?_eq_none]
  intro x hx
  simp [hb x (by simpa using hx)]
theorem first_none' {p : Nat → Bool} {n : Nat} (h : first p n = none) : ∀ j, j < n → p j = false := by
  intro j hj
  unfold first at h
  rw [List.find?_eq_none] at h
  simpa using h j (by simpa using hj)
theorem first_some' {p : Nat → Bool} {n k : Nat} (h : first p n = some k) : k < n ∧ p k = true ∧ ∀ j, j < k → p j = false := by
  unfold first at h
  rw [List.find?_range_eq_some] at h
  exact ⟨by simpa using h.2.1, h.1, fun j hj => by simpa using h.2.2 j hj⟩
/-- an element out of range -/
def outB (n : Int) (s : Int) : Bool := decide (s < -1) || decide (n ≤ s)
theorem outB_false {n s : Int} : outB n s = false ↔ -1 ≤ s ∧ s < n := by
  unfold outB
  rw [Bool.or_eq_false_iff, decide_eq_false_iff_not, decide_eq_false_iff_not]
  omega
def rowOut (n : Int) (row : List Int) : Bool := row.any (outB n)
def rowBad (g n : Int) (row : List Int) : Bool := decide ((row.length : Int) ≠ 2 * g) || rowOut n row
/-- the column of the inverse letter -/
def flp (c : Nat) : Nat := if c % 2 = 0 then c + 1 else c - 1
def sumAt (t : Tb) (r c : Nat) : Bool := decide (0 ≤ t.at r c) && decide (t.at (t.at r c).toNat (flp c) ≠ (r : Int))
def sumBad (t : Tb) (m : Nat) (r : Nat) : Bool := (List.range m).any (sumAt t r)
def wide (g : Int) (t : Tb) : Bool := decide (g < 1) || decide (16 < g) || decide (t.length < 1) || decide (20000 < t.length)
def check (g : Int) (t : Tb) : Int × Int :=
  if wide g t then (2, -1) else
  match first (fun r => rowBad g t.length (t.row r)) t.length with
  | some r => (if ((t.row r).length : Int) ≠ 2 * g then 3 else 2, r)
  | none => match first (sumBad t (2 * g).toNat) t.length with
    | some r => (14, r)
    | none => (0, -1)
structure TGood (g : Nat) (t : Tb) : Prop where
  g1 : 1 ≤ g
  g16 : g ≤ 16
  n1 : 1 ≤ t.length
  n2 : t.length ≤ 20000
  len : ∀ r, r < t.length → (t.row r).length = 2 * g
  bd : ∀ r, r < t.length → ∀ c, c < 2 * g → -1 ≤ t.at r c ∧ t.at r c < t.length
  back : ∀ r, r < t.length → ∀ c, c < 2 * g → 0 ≤ t.at r c → t.at (t.at r c).toNat (flp c) = r
theorem rowOut_false {n : Int} {row : List Int} (h : rowOut n row = false) : ∀ c, c < row.length → -1 ≤ row.getD c 0 ∧ row.getD c 0 < n := by
  intro c hc
  unfold rowOut at h
  rw [List.any_eq_false] at h
  have := h (row.getD c 0) (by rw [List.getD_eq_getElem?_getD, List.getElem?_eq_getElem hc]; exact List.getElem_mem hc)
  rw [Bool.not_eq_true] at this
  exact outB_false.1 this
theorem rowOut_false' {n : Int} {row : List Int} (h : ∀ c, c < row.length → -1 ≤ row.getD c 0 ∧ row.getD c 0 < n) : rowOut n row = false := by
  unfold rowOut
  rw [List.any_eq_false]
  intro x hx
  obtain ⟨c, hc, rfl⟩ := List.mem_iff_getElem.1 hx
  have := h c hc
  rw [List.getD_eq_getElem?_getD, List.getElem?_eq_getElem hc] at this
  rw [Bool.not_eq_true]
  exact outB_false.2 this
theorem check_of_good {g : Nat} {t : Tb} (h : TGood g t) : check g t = (0, -1) := by
  have hw : wide g t = false := by
    have := h.g1; have := h.g16; have := h.n1; have := h.n2
    unfold wide
    simp only [Bool.or_eq_false_iff, decide_eq_false_iff_not]
    omega
  have h1 : first (fun r => rowBad g t.length (t.row r)) t.length = none := first_none fun r hr => by
    have hl := h.len r hr
    simp [rowBad, hl]
    exact rowOut_false' fun c hc => h.bd r hr c (by omega)
  have h2 : first (sumBad t (2 * (g : Int)).toNat) t.length = none := first_none fun r hr => by
    unfold sumBad
    rw [List.any_eq_false]
    intro c hc
    have hc' : c < 2 * g := by simp at hc; omega
    simp [sumAt]
    exact h.back r hr c hc'
  unfold check
  rw [hw, h1, h2]
  rfl
theorem sumBad_true {t : Tb} {m r c : Nat} (hc : c < m) (h : sumAt t r c = true) : sumBad t m r = true := by
  unfold sumBad
  rw [List.any_eq_true]
  exact ⟨c, by simpa using hc, h⟩
theorem sumBad_false {t : Tb} {m r : Nat} (h : ∀ c, c < m → sumAt t r c = false) : sumBad t m r = false := by
  unfold sumBad
  rw [List.any_eq_false]
  intro c hc
  simp [h c (by simpa using hc)]
/-- The order in which the cosets are met, and their numbers. -/
def visit (l : List Int) (s : Int) : List Int := if decide (s < 0) || l.contains s then l else l ++ [s]
def visitTo (row : List Int) (c : Nat) (l : List Int) : List Int := foldTo (fun c l => visit l (row.getD c 0)) c l
def ordTo (t : Tb) (b : Int) : Nat → List Int
  | 0 => [b]
  | k + 1 => if k < (ordTo t b k).length then visitTo (t.row ((ordTo t b k).getD k 0).toNat) (t.row ((ordTo t b k).getD k 0).toNat).length (ordTo t b k) else ordTo t b k
def ord (t : Tb) (b : Int) : List Int := ordTo t b t.length
def numOf (l : List Int) (x : Int) : Int := (l.idxOf x : Int)
def neg (row : List Int) : Bool := row.any fun s => decide (s < 0)
def std (t : Tb) (b : Int) : Option Tb :=
  if (ord t b).length = t.length ∧ t.any neg = false then some ((ord t b).map fun r => (t.row r.toNat).map (numOf (ord t b))) else none
def complete (t : Tb) : Bool := !(t.any fun row => row.contains (-1))
def stdE (g : Int) (t : Tb) (b : Int) : Tb × Int :=
  if (check g t).1 ≠ 0 then ([], (check g t).1) else
  if b < 0 ∨ (t.length : Int) ≤ b then ([], 2) else
  match std t b with | none => ([], 13) | some s => (s, 0)
def letter (c : Nat) : Int := if c % 2 = 1 then -((c / 2 : Nat) + 1) else (c / 2 : Nat) + 1
abbrev W := List Int
def repCol (t : Tb) (r c : Nat) (out : List W) : List W := if t.at r c = (out.length : Int) then out ++ [out.getD r [] ++ [letter c]] else out
def repRow (t : Tb) (r : Nat) (out : List W) : List W := foldTo (repCol t r) (t.row r).length out
def reps (t : Tb) : List W := foldTo (repRow t) t.length [[]]
end Go.Proofs.Ct
namespace Go.Proofs.Ct
theorem visit_pre (l : List Int) (s : Int) : l <+: visit l s := by
  unfold visit
  split
  · exact List.prefix_refl _
  · exact List.prefix_append _ _
theorem visitTo_pre (row : List Int) (c : Nat) (l : List Int) : l <+: visitTo row c l := by
  induction c with
  | zero => exact List.prefix_refl _
  | succ c ih => exact ih.trans (visit_pre _ _)
theorem visitTo_mono (row : List Int) {c d : Nat} (h : c ≤ d) (l : List Int) : visitTo row c l <+: visitTo row d l := by
  obtain ⟨e, rfl⟩ := Nat.exists_eq_add_of_le h
  clear h
  induction e with
  | zero => exact List.prefix_refl _
  | succ e ih => exact ih.trans (visit_pre _ _)
theorem ordTo_pre (t : Tb) (b : Int) (k : Nat) : ordTo t b k <+: ordTo t b (k + 1) := by
  rw [ordTo]
  split
  · exact visitTo_pre _ _ _
  · exact List.prefix_refl _
theorem ordTo_mono (t : Tb) (b : Int) {k m : Nat} (h : k ≤ m) : ordTo t b k <+: ordTo t b m := by
  obtain ⟨e, rfl⟩ := Nat.exists_eq_add_of_le h
  clear h
  induction e with
  | zero => exact List.prefix_refl _
  | succ e ih => exact ih.trans (ordTo_pre _ _ _)
theorem ordTo_stable (t : Tb) (b : Int) {k : Nat} (h : (ordTo t b k).length ≤ k) {m : Nat} (hm : k ≤ m) : ordTo t b m = ordTo t b k := by
  obtain ⟨e, rfl⟩ := Nat.exists_eq_add_of_le hm
  clear hm
  induction e with
  | zero => rfl
  | succ e ih =>
    rw [← Nat.add_assoc, ordTo, ih, if_neg (by omega)]
/-- a list of cosets below n, without repeats -/
structure Cos (n : Nat) (l : List Int) : Prop where
  nd : l.Nodup
  bd : ∀ x ∈ l, 0 ≤ x ∧ x < n
theorem Cos.visit {n : Nat} {l : List Int} (h : Cos n l) {s : Int} (hs : s < n) : Cos n (visit l s) := by
  unfold Ct.visit
  split
  · exact h
  · rename_i hc
    simp at hc
    refine ⟨List.nodup_append.2 ⟨h.nd, by simp, fun a ha b hb => ?_⟩, fun x hx => ?_⟩
    · simp at hb
      subst hb
      intro e
      subst e
      exact hc.2 ha
    · rw [List.mem_append] at hx
      rcases hx with hx | hx
      · exact h.bd x hx
      · simp at hx
        subst hx
        exact ⟨hc.1, hs⟩
theorem Cos.visitTo {n : Nat} {row : List Int} (hr : ∀ c, c < row.length → row.getD c 0 < n) {l : List Int} (h : Cos n l) : ∀ {c : Nat}, c ≤ row.length → Cos n (visitTo row c l)
  | 0, _ => h
  | c + 1, hc => (Cos.visitTo hr h (by omega)).visit (hr c (by omega))
theorem Cos.get {n : Nat} {l : List Int} (h : Cos n l) {k : Nat} (hk : k < l.length) : 0 ≤ l.getD k 0 ∧ l.getD k 0 < n := by
  rw [List.getD_eq_getElem?_getD, List.getElem?_eq_getElem hk]
  exact h.bd _ (List.getElem_mem hk)
theorem TGood.lt {g : Nat} {t : Tb} (h : TGood g t) {r : Nat} (hr : r < t.length) : ∀ c, c < (t.row r).length → (t.row r).getD c 0 < t.length := fun c hc => by
  rw [h.len r hr] at hc
  exact (h.bd r hr c hc).2
theorem Cos.ordTo {g : Nat} {t : Tb} (hg : TGood g t) {b : Int} (hb : 0 ≤ b) (hb' : b < t.length) : ∀ k, Cos t.length (ordTo t b k)
  | 0 => ⟨by simp [Ct.ordTo], fun x hx => by
      simp [Ct.ordTo] at hx
      subst hx
      exact ⟨hb, hb'⟩⟩
  | k + 1 => by
    have ih := Cos.ordTo hg hb hb' k
    rw [Ct.ordTo]
    split
    · rename_i hk
      have hx := ih.get hk
      exact ih.visitTo (hg.lt (by omega)) (Nat.le_refl _)
    · exact ih
theorem length_le_of_nodup : ∀ {n : Nat} {l : List Int}, Cos n l → l.length ≤ n
  | 0, l, h => by
    rcases l with _ | ⟨x, l⟩
    · simp
    · have := h.bd x (by simp)
      omega
  | n + 1, l, h => by
    have h1 : Cos n (l.erase n) := ⟨h.nd.erase _, fun x hx => by
      have h2 := (List.Nodup.mem_erase_iff h.nd).1 hx
      have h3 := h.bd x h2.2
      have : x ≠ (n : Int) := h2.1
      omega⟩
    have h4 := length_le_of_nodup h1
    rw [List.length_erase] at h4
    split at h4 <;> omega
theorem mem_of_full : ∀ {n : Nat} {l : List Int}, Cos n l → l.length = n → ∀ r : Nat, r < n → (r : Int) ∈ l := by
  intro n l h hl r hr
  by_cases hm : (r : Int) ∈ l
  · exact hm
  · exfalso
    -- r is left out: the others, with r's place taken by n - 1, are below n - 1
    have h1 : Cos n ((r : Int) :: l) := ⟨List.nodup_cons.2 ⟨hm, h.nd⟩, fun x hx => by
      rcases List.mem_cons.1 hx with rfl | hx
      · exact ⟨by omega, by omega⟩
      · exact h.bd x hx⟩
    have := length_le_of_nodup h1
    simp at this
    omega
theorem idxOf_pre {l o : List Int} (h : l <+: o) {x : Int} (hx : x ∈ l) : numOf o x = numOf l x := by
  obtain ⟨m, rfl⟩ := h
  unfold numOf
  rw [List.idxOf_append, if_pos hx]
theorem numOf_new {l o : List Int} {x : Int} (hx : x ∉ l) (h : l ++ [x] <+: o) : numOf o x = l.length := by
  obtain ⟨m, rfl⟩ := h
  unfold numOf
  rw [List.idxOf_append, if_pos (by simp), List.idxOf_append, if_neg hx]
  simp
theorem mem_visit {l : List Int} {s : Int} (h : 0 ≤ s) : s ∈ visit l s := by
  unfold visit
  split
  · rename_i hc
    simp at hc
    rcases hc with hc | hc
    · omega
    · exact hc
  · simp
theorem mem_visitTo {row : List Int} {c d : Nat} (h : c < d) (h0 : 0 ≤ row.getD c 0) (l : List Int) : row.getD c 0 ∈ visitTo row d l :=
  (visitTo_mono row (by omega : c + 1 ≤ d) l).subset (mem_visit h0)
theorem row_of_mem {t : Tb} {r : Nat} (hr : r < t.length) : t.row r ∈ t := by
  unfold Tb.row
  rw [List.getD_eq_getElem?_getD, List.getElem?_eq_getElem hr]
  exact List.getElem_mem hr
theorem pre_get {l o : List Int} (h : l <+: o) {k : Nat} (hk : k < l.length) : o.getD k 0 = l.getD k 0 := by
  obtain ⟨m, rfl⟩ := h
  simp [List.getD_eq_getElem?_getD, List.getElem?_append, hk]
end Go.Proofs.Ct
namespace Go.Proofs.Ct
def opp (x y : Int) : Bool := decide (x ≠ 0) && decide (y = -x)
def push (st : W) (x : Int) : W := if decide (0 < st.length) && opp (st.getD (st.length - 1) 0) x then st.take (st.length - 1) else st ++ [x]
def redTo (w : W) (k : Nat) : W := foldTo (fun k st => push st (w.getD k 0)) k []
def red (w : W) : W := redTo w w.length
def inv (w : W) : W := w.reverse.map fun x => -x
def invW (a : W) : W := red (inv a)
theorem length_inv (w : W) : (inv w).length = w.length := by simp [inv]
theorem mem_inv {w : W} {y : Int} (h : y ∈ inv w) : -y ∈ w := by
  simp [inv] at h
  obtain ⟨a, ha, rfl⟩ := h
  simpa using ha
def dest (t : Tb) (r : Nat) (g : Nat) : Nat := (t.at r (2 * g)).toNat
/-- no tree edge: the coset r and the generator g + 1 -/
def nt (t : Tb) (R : List W) (r g : Nat) : Bool :=
  !(decide (R.getD (dest t r g) [] = R.getD r [] ++ [((g + 1 : Nat) : Int)])) && !(decide (R.getD r [] = R.getD (dest t r g) [] ++ [-((g + 1 : Nat) : Int)]))
def pairRow (t : Tb) (R : List W) (r : Nat) (g : Nat) (l : List (Nat × Nat)) : List (Nat × Nat) := foldTo (fun g l => if nt t R r g then l ++ [(r, g)] else l) g l
def pairTo (t : Tb) (R : List W) (gens r : Nat) : List (Nat × Nat) := foldTo (fun r l => pairRow t R r gens l) r []
/-- the number of a pair: the pairs up to it -/
def number (t : Tb) (R : List W) (gens r g : Nat) : Int := if nt t R r g then (pairRow t R r (g + 1) (pairTo t R gens r)).length else 0
def stepW (t : Tb) (r : Nat) (x : Int) : Nat := (t.at r (if 0 < x then (2 * x - 2).toNat else (-2 * x - 1).toNat)).toNat
end Go.Proofs.Ct
namespace Go.Proofs.Ct
theorem mem_repCol {t : Tb} {r c : Nat} {out : List W} {w : W} (h : w ∈ repCol t r c out) : w ∈ out ∨ w = out.getD r [] ++ [letter c] := by
  unfold repCol at h
  split at h
  · simpa using h
  · exact .inl h
theorem getD_mem_or {out : List W} {r : Nat} : out.getD r [] ∈ out ∨ out.getD r [] = [] := by
  rw [List.getD_eq_getElem?_getD]
  rcases Nat.lt_or_ge r out.length with h | h
  · rw [List.getElem?_eq_getElem h]; exact .inl (List.getElem_mem h)
  · rw [List.getElem?_eq_none h]; exact .inr rfl
def Lets (N : Nat) (out : List W) : Prop := ∀ w ∈ out, ∀ x ∈ w, ∃ c, c < N ∧ x = letter c
theorem Lets.col {t : Tb} {N r c : Nat} {out : List W} (h : Lets N out) (hc : c < N) : Lets N (repCol t r c out) := fun w hw x hx => by
  rcases mem_repCol hw with hw | rfl
  · exact h w hw x hx
  · rcases List.mem_append.1 hx with hx | hx
    · rcases @getD_mem_or out r with h1 | h1
      · exact h _ h1 x hx
      · rw [h1] at hx; cases hx
    · exact ⟨c, hc, by simpa using hx⟩
theorem Lets.row {t : Tb} {N r : Nat} {out : List W} (h : Lets N out) (hl : (t.row r).length ≤ N) : Lets N (repRow t r out) :=
  foldTo_inv (p := fun _ out => Lets N out) h _ fun c x hc hx => hx.col (by omega)
end Go.Proofs.Ct
namespace Go.Proofs.Ct
/-- the column of a letter -/
def col (x : Int) : Nat := if 0 < x then (2 * x - 2).toNat else (-2 * x - 1).toNat
/-- where a word leads; -1: nowhere -/
def leadTo (t : Tb) (r : Int) (w : W) (k : Nat) : Int := foldTo (fun k r => if r < 0 then r else t.at r.toNat (col (w.getD k 0))) k r
def leads (t : Tb) (r : Int) (w : W) : Int := leadTo t r w w.length
/-- all words of a list lead from r to r -/
def staysB (t : Tb) (r : Int) (l : List W) : Bool := l.all fun w => decide (leads t r w = r)
def holdsB (rels sub : List W) (t : Tb) : Bool := complete t && staysB t 0 sub && (List.range t.length).all fun r => staysB t (r : Int) rels
theorem leadTo_succ (t : Tb) (r : Int) (w : W) (k : Nat) : leadTo t r w (k + 1) = if leadTo t r w k < 0 then leadTo t r w k else t.at (leadTo t r w k).toNat (col (w.getD k 0)) := rfl
end Go.Proofs.Ct
namespace Go.Proofs.Ct
/-- the element (r, c) set -/
def set2 (t : Tb) (r c : Nat) (v : Int) : Tb := t.set r ((t.row r).set c v)
theorem length_set2 (t : Tb) (r c : Nat) (v : Int) : (set2 t r c v).length = t.length := by simp [set2]
theorem row_set2 (t : Tb) (r c : Nat) (v : Int) (k : Nat) : (set2 t r c v).row k = if r = k ∧ r < t.length then (t.row r).set c v else t.row k := by
  unfold set2 Tb.row
  rw [List.getD_eq_getElem?_getD, List.getElem?_set]
  by_cases h : r = k
  · subst h
    by_cases h2 : r < t.length
    · simp [h2]
    · simp [h2, List.getD_eq_getElem?_getD]
  · simp [h, List.getD_eq_getElem?_getD]
theorem rowlen_set2 (t : Tb) (r c : Nat) (v : Int) (k : Nat) : ((set2 t r c v).row k).length = (t.row k).length := by
  rw [row_set2]
  split
  · rename_i h; rw [← h.1]; simp
  · rfl
theorem at_set2 (t : Tb) (r c : Nat) (v : Int) (k j : Nat) : (set2 t r c v).at k j = if r = k ∧ c = j ∧ r < t.length ∧ c < (t.row r).length then v else t.at k j := by
  unfold Tb.at
  rw [row_set2]
  by_cases h : r = k ∧ r < t.length
  · rw [if_pos h]
    obtain ⟨rfl, hr⟩ := h
    rw [List.getD_eq_getElem?_getD, List.getElem?_set]
    by_cases hc : c = j
    · subst hc
      by_cases hl : c < (t.row r).length
      · simp [hl, hr]
      · simp [hl, List.getD_eq_getElem?_getD]
    · simp [hc, List.getD_eq_getElem?_getD]
  · rw [if_neg h, if_neg (fun h' => h ⟨h'.1, h'.2.2.1⟩)]
theorem flp_flp (c : Nat) : flp (flp c) = c := by unfold flp; split <;> split <;> omega
theorem flp_ne (c : Nat) : flp c ≠ c := by unfold flp; split <;> omega
theorem flp_lt2 {c g : Nat} (h : c < 2 * g) : flp c < 2 * g := by unfold flp; split <;> omega
/-- the state of an enumeration: the rows, the representatives, the queue, how many live, how many at most -/
structure St where
  t : Tb
  rep : List Nat
  q : List Nat
  live : Int
  most : Int
def St.rp (s : St) (x : Nat) : Nat := s.rep.getD x 0
def mergeS (s : St) (a b : Nat) : St :=
  if s.rp a = s.rp b then s else { s with rep := s.rep.map fun x => if x = max (s.rp a) (s.rp b) then min (s.rp a) (s.rp b) else x, q := s.q ++ [max (s.rp a) (s.rp b)], live := s.live - 1 }
def joinT (t : Tb) (r c d : Nat) : Tb := set2 (set2 t r c (d : Int)) d (flp c) (r : Int)
def cutT (t : Tb) (e c : Nat) : Tb := set2 (set2 t e c (-1)) (t.at e c).toNat (flp c) (-1)
def stepS (e c : Nat) (s : St) : St :=
  if s.t.at e c < 0 then s else
  if 0 ≤ (cutT s.t e c).at (s.rp e) c then mergeS { s with t := cutT s.t e c } ((cutT s.t e c).at (s.rp e) c).toNat (s.rp (s.t.at e c).toNat) else
  if 0 ≤ (cutT s.t e c).at (s.rp (s.t.at e c).toNat) (flp c) then mergeS { s with t := cutT s.t e c } ((cutT s.t e c).at (s.rp (s.t.at e c).toNat) (flp c)).toNat (s.rp e) else
  { s with t := joinT (cutT s.t e c) (s.rp e) c (s.rp (s.t.at e c).toNat) }
def procTo (e : Nat) (c : Nat) (s : St) : St := foldTo (stepS e) c s
def coinTo (m k : Nat) (s : St) : St := foldTo (fun k s => if k < s.q.length then procTo (s.q.getD k 0) m s else s) k s
def coinS (m : Nat) (s : St) (a b : Nat) : St := coinTo m s.t.length (mergeS { s with q := [] } a b)
/-- what always holds of a state with 2 * g columns -/
structure Inv (g : Nat) (s : St) : Prop where
  len : ∀ r, r < s.t.length → (s.t.row r).length = 2 * g
  bd : ∀ r, r < s.t.length → ∀ c, c < 2 * g → -1 ≤ s.t.at r c ∧ s.t.at r c < s.t.length
  rl : s.rep.length = s.t.length
  rle : ∀ x, x < s.t.length → s.rp x ≤ x
  rid : ∀ x, x < s.t.length → s.rp (s.rp x) = s.rp x
  back : ∀ r, r < s.t.length → ∀ c, c < 2 * g → 0 ≤ s.t.at r c → s.t.at (s.t.at r c).toNat (flp c) = r
theorem Inv.rlt {g : Nat} {s : St} (h : Inv g s) {x : Nat} (hx : x < s.t.length) : s.rp x < s.t.length := Nat.lt_of_le_of_lt (h.rle x hx) hx
/-- an edge -/
def Edge (t : Tb) (x c y : Nat) : Prop := t.at x c = (y : Int)
/-- s goes on from s0: classes grow, edges stay, seen from the classes -/
structure Cov (g : Nat) (s0 s : St) : Prop where
  n : s.t.length = s0.t.length
  coarse : ∀ x, x < s0.t.length → s.rp (s0.rp x) = s.rp x
  edge : ∀ x c y, x < s0.t.length → c < 2 * g → Edge s0.t x c y → ∃ u v, u < s0.t.length ∧ v < s0.t.length ∧ Edge s.t u c v ∧ s.rp u = s.rp x ∧ s.rp v = s.rp y
theorem Edge.lt {g : Nat} {s : St} (h : Inv g s) {x c y : Nat} (hx : x < s.t.length) (hc : c < 2 * g) (he : Edge s.t x c y) : y < s.t.length := by
  have := (h.bd x hx c hc).2
  rw [he] at this
  omega
theorem Edge.back {g : Nat} {s : St} (h : Inv g s) {x c y : Nat} (hx : x < s.t.length) (hc : c < 2 * g) (he : Edge s.t x c y) : Edge s.t y (flp c) x := by
  have := h.back x hx c hc (by rw [he]; omega)
  rw [he] at this
  unfold Edge
  simpa using this
theorem Cov.refl {g : Nat} {s : St} (h : Inv g s) : Cov g s s := ⟨rfl, fun x hx => h.rid x hx, fun x _c y hx hc he => ⟨x, y, hx, he.lt h hx hc, he, rfl, rfl⟩⟩
theorem Cov.trans {g : Nat} {a b c : St} (ha : Inv g a) (h1 : Cov g a b) (h2 : Cov g b c) : Cov g a c := by
  have hsame : ∀ x y, x < a.t.length → y < a.t.length → b.rp x = b.rp y → c.rp x = c.rp y := fun x y hx hy e => by
    rw [← h2.coarse x (by rw [h1.n]; exact hx), ← h2.coarse y (by rw [h1.n]; exact hy), e]
  refine ⟨h2.n.trans h1.n, fun x hx => ?_, fun x k y hx hk he => ?_⟩
  · have hr := ha.rlt hx
    exact hsame _ _ hr hx (h1.coarse x hx)
  · have hy := he.lt ha hx hk
    obtain ⟨u, v, hu, hv, e1, e2, e3⟩ := h1.edge x k y hx hk he
    obtain ⟨u', v', hu', hv', f1, f2, f3⟩ := h2.edge u k v (by rw [h1.n]; exact hu) hk e1
    rw [h1.n] at hu' hv'
    exact ⟨u', v', hu', hv', f1, f2.trans (hsame _ _ hu hx e2), f3.trans (hsame _ _ hv hy e3)⟩
/-- merging -/
theorem rp_merge {g : Nat} {s : St} (h : Inv g s) {a b x : Nat} (_ha : a < s.t.length) (_hb : b < s.t.length) (hx : x < s.t.length) : (mergeS s a b).rp x = if s.rp x = max (s.rp a) (s.rp b) then min (s.rp a) (s.rp b) else s.rp x := by
  unfold mergeS
  split
  · rename_i e
    rw [e, Nat.max_self, Nat.min_self]
    split
    · rename_i e2; exact e2
    · rfl
  · unfold St.rp
    simp only
    have hl : x < s.rep.length := by rw [h.rl]; exact hx
    simp [List.getD_eq_getElem?_getD, hl]
theorem t_merge (s : St) (a b : Nat) : (mergeS s a b).t = s.t := by unfold mergeS; split <;> rfl
theorem Inv.merge {g : Nat} {s : St} (h : Inv g s) {a b : Nat} (ha : a < s.t.length) (hb : b < s.t.length) : Inv g (mergeS s a b) := by
  have ht := t_merge s a b
  have hra := h.rid a ha
  have hrb := h.rid b hb
  have hla := h.rle a ha
  have hlb := h.rle b hb
  refine ⟨by rw [ht]; exact h.len, by rw [ht]; exact h.bd, ?_, fun x hx => ?_, fun x hx => ?_, by rw [ht]; exact h.back⟩
  · rw [ht]
    unfold mergeS
    split
    · exact h.rl
    · simpa using h.rl
  · rw [ht] at hx
    rw [rp_merge h ha hb hx]
    have := h.rle x hx
    split <;> omega
  · rw [ht] at hx
    have hx1 := h.rlt hx
    have hr := h.rid x hx
    rw [rp_merge h ha hb hx]
    by_cases e : s.rp x = max (s.rp a) (s.rp b)
    · rw [if_pos e]
      have hmin : min (s.rp a) (s.rp b) < s.t.length := by omega
      have hmr : s.rp (min (s.rp a) (s.rp b)) = min (s.rp a) (s.rp b) := by
        rcases Nat.le_total (s.rp a) (s.rp b) with h' | h'
        · rw [Nat.min_eq_left h']; exact hra
        · rw [Nat.min_eq_right h']; exact hrb
      rw [rp_merge h ha hb hmin, hmr]
      split
      · rfl
      · rfl
    · rw [if_neg e, rp_merge h ha hb hx1, hr, if_neg e]
theorem Cov.merge {g : Nat} {s : St} (h : Inv g s) {a b : Nat} (ha : a < s.t.length) (hb : b < s.t.length) : Cov g s (mergeS s a b) ∧ (mergeS s a b).rp a = (mergeS s a b).rp b := by
  refine ⟨⟨by rw [t_merge], fun x hx => ?_, fun x c y hx hc he => ⟨x, y, hx, he.lt h hx hc, by rw [t_merge]; exact he, rfl, rfl⟩⟩, ?_⟩
  · rw [rp_merge h ha hb hx, rp_merge h ha hb (h.rlt hx), h.rid x hx]
  · rw [rp_merge h ha hb ha, rp_merge h ha hb hb]
    split <;> split <;> omega
end Go.Proofs.Ct
namespace Go.Proofs.Ct
section
variable {g : Nat} {s : St}
theorem at_cut (h : Inv g s) {e c : Nat} (he : e < s.t.length) (hc : c < 2 * g) (_hd : 0 ≤ s.t.at e c) (k j : Nat) :
    (cutT s.t e c).at k j = if (k = e ∧ j = c) ∨ (k = (s.t.at e c).toNat ∧ j = flp c) then -1 else s.t.at k j := by
  have hb := h.bd e he c hc
  have hdn : (s.t.at e c).toNat < s.t.length := by omega
  unfold cutT
  rw [at_set2, at_set2, length_set2, rowlen_set2, h.len _ he, h.len _ hdn]
  have hf := flp_lt2 hc
  by_cases h1 : (s.t.at e c).toNat = k ∧ flp c = j
  · rw [if_pos ⟨h1.1, h1.2, hdn, hf⟩, if_pos (.inr ⟨h1.1.symm, h1.2.symm⟩)]
  · rw [if_neg (fun h' => h1 ⟨h'.1, h'.2.1⟩)]
    by_cases h2 : e = k ∧ c = j
    · rw [if_pos ⟨h2.1, h2.2, he, hc⟩, if_pos (.inl ⟨h2.1.symm, h2.2.symm⟩)]
    · rw [if_neg (fun h' => h2 ⟨h'.1, h'.2.1⟩), if_neg]
      rintro (h' | h')
      · exact h2 ⟨h'.1.symm, h'.2.symm⟩
      · exact h1 ⟨h'.1.symm, h'.2.symm⟩
theorem length_cut (t : Tb) (e c : Nat) : (cutT t e c).length = t.length := by simp [cutT, length_set2]
theorem rowlen_cut (t : Tb) (e c k : Nat) : ((cutT t e c).row k).length = (t.row k).length := by simp [cutT, rowlen_set2]
theorem Inv.cut (h : Inv g s) {e c : Nat} (he : e < s.t.length) (hc : c < 2 * g) (hd : 0 ≤ s.t.at e c) : Inv g { s with t := cutT s.t e c } := by
  have hdn : (s.t.at e c).toNat < s.t.length := by have := h.bd e he c hc; omega
  have hbk := h.back e he c hc hd
  refine ⟨fun r hr => ?_, fun r hr k hk => ?_, ?_, fun x hx => h.rle x (by simpa [length_cut] using hx), fun x hx => h.rid x (by simpa [length_cut] using hx), fun r hr k hk h0 => ?_⟩
  · rw [rowlen_cut]; exact h.len r (by simpa [length_cut] using hr)
  · simp only [length_cut] at hr ⊢
    rw [at_cut h he hc hd]
    have := h.bd r hr k hk
    split
    · omega
    · exact this
  · simp only [length_cut]; exact h.rl
  · simp only [length_cut] at hr
    simp only at h0 ⊢
    rw [at_cut h he hc hd r k] at h0 ⊢
    by_cases hx : (r = e ∧ k = c) ∨ (r = (s.t.at e c).toNat ∧ k = flp c)
    · rw [if_pos hx] at h0; omega
    · rw [if_neg hx] at h0 ⊢
      rw [at_cut h he hc hd, if_neg]
      · exact h.back r hr k hk h0
      · have hb := h.back r hr k hk h0
        rintro (⟨h1, h2⟩ | ⟨h1, h2⟩)
        · rw [h1, h2] at hb
          exact hx (.inr ⟨by omega, by rw [← h2, flp_flp]⟩)
        · have hkc : k = c := by rw [← flp_flp k, h2, flp_flp]
          rw [h1, h2, hbk] at hb
          exact hx (.inl ⟨by omega, hkc⟩)
theorem at_join (h : Inv g s) {u v c : Nat} (hu : u < s.t.length) (hv : v < s.t.length) (hc : c < 2 * g) (k j : Nat) :
    (joinT s.t u c v).at k j = if k = v ∧ j = flp c then (u : Int) else if k = u ∧ j = c then (v : Int) else s.t.at k j := by
  have hf := flp_lt2 hc
  unfold joinT
  rw [at_set2, at_set2, length_set2, rowlen_set2, h.len _ hu, h.len _ hv]
  by_cases h1 : k = v ∧ j = flp c
  · rw [if_pos ⟨h1.1.symm, h1.2.symm, hv, hf⟩, if_pos h1]
  · rw [if_neg (fun h' => h1 ⟨h'.1.symm, h'.2.1.symm⟩), if_neg h1]
    by_cases h2 : k = u ∧ j = c
    · rw [if_pos ⟨h2.1.symm, h2.2.symm, hu, hc⟩, if_pos h2]
    · rw [if_neg (fun h' => h2 ⟨h'.1.symm, h'.2.1.symm⟩), if_neg h2]
theorem length_join (t : Tb) (u c v : Nat) : (joinT t u c v).length = t.length := by simp [joinT, length_set2]
theorem rowlen_join (t : Tb) (u c v k : Nat) : ((joinT t u c v).row k).length = (t.row k).length := by simp [joinT, rowlen_set2]
theorem Inv.join (h : Inv g s) {u v c : Nat} (hu : u < s.t.length) (hv : v < s.t.length) (hc : c < 2 * g) (h1 : s.t.at u c < 0) (h2 : s.t.at v (flp c) < 0) : Inv g { s with t := joinT s.t u c v } := by
  refine ⟨fun r hr => ?_, fun r hr k hk => ?_, ?_, fun x hx => h.rle x (by simpa [length_join] using hx), fun x hx => h.rid x (by simpa [length_join] using hx), fun r hr k hk h0 => ?_⟩
  · rw [rowlen_join]; exact h.len r (by simpa [length_join] using hr)
  · simp only [length_join] at hr ⊢
    rw [at_join h hu hv hc]
    have := h.bd r hr k hk
    split
    · omega
    · split
      · omega
      · exact this
  · simp only [length_join]; exact h.rl
  · simp only [length_join] at hr
    simp only at h0 ⊢
    have hne := flp_ne c
    rw [at_join h hu hv hc r k] at h0 ⊢
    by_cases e1 : r = v ∧ k = flp c
    · rw [if_pos e1, Int.toNat_natCast, at_join h hu hv hc, e1.2, flp_flp, if_neg (fun h' => hne h'.2.symm), if_pos ⟨rfl, rfl⟩, e1.1]
    · rw [if_neg e1] at h0 ⊢
      by_cases e2 : r = u ∧ k = c
      · rw [if_pos e2, Int.toNat_natCast, at_join h hu hv hc, if_pos ⟨rfl, by rw [e2.2]⟩, e2.1]
      · rw [if_neg e2] at h0 ⊢
        have hb := h.back r hr k hk h0
        rw [at_join h hu hv hc, if_neg, if_neg]
        · exact hb
        · rintro ⟨h', h''⟩
          rw [h', h''] at hb
          omega
        · rintro ⟨h', h''⟩
          rw [h', h''] at hb
          omega
/-- one column of one row: it keeps what always holds, and goes on from where it was -/
theorem step_cov (h : Inv g s) {e c : Nat} (he : e < s.t.length) (hc : c < 2 * g) : Inv g (stepS e c s) ∧ Cov g s (stepS e c s) := by
  unfold stepS
  by_cases hd : s.t.at e c < 0
  · rw [if_pos hd]
    exact ⟨h, Cov.refl h⟩
  · rw [if_neg hd]
    have hd' : 0 ≤ s.t.at e c := by omega
    obtain ⟨d, hdd⟩ := Int.eq_ofNat_of_zero_le hd'
    have hdn : d < s.t.length := by have := h.bd e he c hc; omega
    have hcut := h.cut he hc hd'
    have hat := at_cut h he hc hd'
    have hbk : s.t.at d (flp c) = (e : Int) := by have := h.back e he c hc hd'; rw [hdd] at this; simpa using this
    rw [hdd, Int.toNat_natCast] at hat ⊢
    have hun := h.rlt he
    have hvn := h.rlt hdn
    have hlen := length_cut s.t e c
    have hf := flp_lt2 hc
    generalize hs1 : ({ s with t := cutT s.t e c } : St) = s1 at *
    have ht1 : s1.t = cutT s.t e c := by rw [← hs1]
    have hrp1 : ∀ x, s1.rp x = s.rp x := fun x => by rw [← hs1]; rfl
    have hn1 : s1.t.length = s.t.length := by rw [ht1, hlen]
    rw [← ht1] at hat ⊢
    -- edges that are not cut
    have hkeep : ∀ x k y, x < s.t.length → k < 2 * g → Edge s.t x k y → ¬ ((x = e ∧ k = c) ∨ (x = d ∧ k = flp c)) → Edge s1.t x k y := fun x k y hx hk hE hn => by
      unfold Edge
      rw [hat, if_neg hn]
      exact hE
    have hcov0 : ∀ s2 : St, Cov g s1 s2 → (∀ u v : Nat, u < s.t.length → v < s.t.length → True) →
        (∃ u v, u < s.t.length ∧ v < s.t.length ∧ Edge s2.t u c v ∧ s2.rp u = s2.rp e ∧ s2.rp v = s2.rp d) → (∃ u v, u < s.t.length ∧ v < s.t.length ∧ Edge s2.t u (flp c) v ∧ s2.rp u = s2.rp d ∧ s2.rp v = s2.rp e) → Cov g s s2 := fun s2 h2 _ ha hb => by
      refine ⟨h2.n.trans hn1, fun x hx => ?_, fun x k y hx hk hE => ?_⟩
      · rw [← hrp1 x]; exact h2.coarse x (by rw [hn1]; exact hx)
      · by_cases h3 : (x = e ∧ k = c) ∨ (x = d ∧ k = flp c)
        · rcases h3 with ⟨rfl, rfl⟩ | ⟨rfl, rfl⟩
          · obtain rfl : y = d := by unfold Edge at hE; omega
            exact ha
          · obtain rfl : y = e := by unfold Edge at hE; omega
            exact hb
        · obtain ⟨u, v, h4, h5, h6⟩ := h2.edge x k y (by rw [hn1]; exact hx) hk (hkeep x k y hx hk hE h3)
          rw [hn1] at h4 h5
          exact ⟨u, v, h4, h5, h6⟩
    have hce : ∀ (s2 : St), Cov g s1 s2 → ∀ x, x < s.t.length → s2.rp (s.rp x) = s2.rp x := fun s2 h2 x hx => by
      have := h2.coarse x (by omega)
      rwa [hrp1] at this
    by_cases h1 : 0 ≤ s1.t.at (s.rp e) c
    · rw [if_pos h1]
      obtain ⟨w, hw⟩ := Int.eq_ofNat_of_zero_le h1
      have hE1 : Edge s1.t (s.rp e) c w := hw
      have hwn : w < s.t.length := by have := hE1.lt hcut (by rw [hn1]; exact hun) hc; omega
      have hE2 := hE1.back hcut (by rw [hn1]; exact hun) hc
      rw [hw, Int.toNat_natCast]
      have hI := hcut.merge (a := w) (b := s.rp d) (by omega) (by omega)
      obtain ⟨hC, hm⟩ := Cov.merge hcut (a := w) (b := s.rp d) (by omega) (by omega)
      refine ⟨hI, hcov0 _ hC (fun _ _ _ _ => trivial) ⟨s.rp e, w, hun, hwn, by rw [t_merge]; exact hE1, ?_, ?_⟩ ⟨w, s.rp e, hwn, hun, by rw [t_merge]; exact hE2, ?_, ?_⟩⟩
      · exact hce _ hC e he
      · rw [hm]; exact hce _ hC d hdn
      · rw [hm]; exact hce _ hC d hdn
      · exact hce _ hC e he
    · rw [if_neg h1]
      by_cases h2 : 0 ≤ s1.t.at (s.rp d) (flp c)
      · rw [if_pos h2]
        obtain ⟨w, hw⟩ := Int.eq_ofNat_of_zero_le h2
        have hE1 : Edge s1.t (s.rp d) (flp c) w := hw
        have hwn : w < s.t.length := by have := hE1.lt hcut (by rw [hn1]; exact hvn) hf; omega
        have hE2 := hE1.back hcut (by rw [hn1]; exact hvn) hf
        rw [flp_flp] at hE2
        rw [hw, Int.toNat_natCast]
        have hI := hcut.merge (a := w) (b := s.rp e) (by omega) (by omega)
        obtain ⟨hC, hm⟩ := Cov.merge hcut (a := w) (b := s.rp e) (by omega) (by omega)
        refine ⟨hI, hcov0 _ hC (fun _ _ _ _ => trivial) ⟨w, s.rp d, hwn, hvn, by rw [t_merge]; exact hE2, ?_, ?_⟩ ⟨s.rp d, w, hvn, hwn, by rw [t_merge]; exact hE1, ?_, ?_⟩⟩
        · rw [hm]; exact hce _ hC e he
        · exact hce _ hC d hdn
        · exact hce _ hC d hdn
        · rw [hm]; exact hce _ hC e he
      · rw [if_neg h2]
        have hI := hcut.join (u := s.rp e) (v := s.rp d) (c := c) (by omega) (by omega) hc (by omega) (by omega)
        have haj := at_join hcut (u := s.rp e) (v := s.rp d) (c := c) (by omega) (by omega) hc
        have hs2 : ({ s with t := joinT s1.t (s.rp e) c (s.rp d) } : St) = { s1 with t := joinT s1.t (s.rp e) c (s.rp d) } := by rw [← hs1]
        rw [hs2]
        have hrp2 : ∀ x, ({ s1 with t := joinT s1.t (s.rp e) c (s.rp d) } : St).rp x = s.rp x := fun x => hrp1 x
        have hC : Cov g s1 { s1 with t := joinT s1.t (s.rp e) c (s.rp d) } := ⟨by simp [length_join], fun x hx => hcut.rid x hx, fun x k y hx hk hE => ⟨x, y, hx, hE.lt hcut hx hk, by
          unfold Edge at hE ⊢
          simp only
          rw [haj, if_neg, if_neg]
          · exact hE
          · rintro ⟨rfl, rfl⟩; omega
          · rintro ⟨rfl, rfl⟩; omega, rfl, rfl⟩⟩
        refine ⟨hI, hcov0 _ hC (fun _ _ _ _ => trivial) ⟨s.rp e, s.rp d, hun, hvn, ?_, ?_, ?_⟩ ⟨s.rp d, s.rp e, hvn, hun, ?_, ?_, ?_⟩⟩
        · unfold Edge
          simp only
          rw [haj, if_neg (fun h' => flp_ne c h'.2.symm), if_pos ⟨rfl, rfl⟩]
        · rw [hrp2, hrp2]; exact h.rid e he
        · rw [hrp2, hrp2]; exact h.rid d hdn
        · unfold Edge
          simp only
          rw [haj, if_pos ⟨rfl, rfl⟩]
        · rw [hrp2, hrp2]; exact h.rid d hdn
        · rw [hrp2, hrp2]; exact h.rid e he
end
end Go.Proofs.Ct
namespace Go.Proofs.Ct
theorem countP_flip {M : Nat} {p p' : Nat → Bool} (hM : p M = false) (hM' : p' M = true) (hx : ∀ x, x ≠ M → p' x = p x) : ∀ n, M < n → (List.range n).countP p' = (List.range n).countP p + 1
  | 0, h => absurd h (Nat.not_lt_zero _)
  | n + 1, h => by
    rw [List.range_succ, List.countP_append, List.countP_append]
    by_cases e : n = M
    · subst e
      have : (List.range n).countP p' = (List.range n).countP p := List.countP_congr fun x hx' => by
        rw [hx x (by simp at hx'; omega)]
      simp [this, hM, hM']
    · rw [countP_flip hM hM' hx n (by omega)]
      simp [hx n e]
      omega
/-- how many cosets are dead -/
def dc (s : St) : Nat := (List.range s.t.length).countP fun x => decide (s.rp x ≠ x)
theorem dc_le (s : St) : dc s ≤ s.t.length := by
  have := List.countP_le_length (p := fun x => decide (s.rp x ≠ x)) (l := List.range s.t.length)
  simpa [dc] using this
/-- the dead with elements wait in the queue, from k (and there from the column c0) on -/
structure QI (g k c0 : Nat) (s : St) : Prop where
  dead : ∀ x, x < s.t.length → s.rp x ≠ x → ∀ c, c < 2 * g → 0 ≤ s.t.at x c → ∃ j, j < s.q.length ∧ s.q.getD j 0 = x ∧ (k < j ∨ (k = j ∧ c0 ≤ c))
  qd : ∀ j, j < s.q.length → s.q.getD j 0 < s.t.length ∧ s.rp (s.q.getD j 0) ≠ s.q.getD j 0
  cnt : s.q.length ≤ dc s
  lv : s.live + (dc s : Int) = s.t.length
/-- the dead are empty -/
structure Rest (g : Nat) (s : St) : Prop where
  inv : Inv g s
  dead : ∀ x, x < s.t.length → s.rp x ≠ x → ∀ c, c < 2 * g → s.t.at x c < 0
  lv : s.live + (dc s : Int) = s.t.length
section
variable {g : Nat} {s : St}
theorem merge_dead (h : Inv g s) {a b : Nat} (ha : a < s.t.length) (hb : b < s.t.length) (hne : s.rp a ≠ s.rp b) :
    max (s.rp a) (s.rp b) < s.t.length ∧ s.rp (max (s.rp a) (s.rp b)) = max (s.rp a) (s.rp b) ∧ (mergeS s a b).rp (max (s.rp a) (s.rp b)) ≠ max (s.rp a) (s.rp b) ∧ (∀ x, x < s.t.length → x ≠ max (s.rp a) (s.rp b) → ((mergeS s a b).rp x = x ↔ s.rp x = x)) ∧ (mergeS s a b).q = s.q ++ [max (s.rp a) (s.rp b)] ∧ (mergeS s a b).live = s.live - 1 ∧ dc (mergeS s a b) = dc s + 1 := by
  have hra := h.rid a ha
  have hrb := h.rid b hb
  have hla := h.rlt ha
  have hlb := h.rlt hb
  have hM : s.rp (max (s.rp a) (s.rp b)) = max (s.rp a) (s.rp b) := by
    rcases Nat.le_total (s.rp a) (s.rp b) with h' | h'
    · rw [Nat.max_eq_right h']; exact hrb
    · rw [Nat.max_eq_left h']; exact hra
  have hMl : max (s.rp a) (s.rp b) < s.t.length := by omega
  have h3 : (mergeS s a b).rp (max (s.rp a) (s.rp b)) ≠ max (s.rp a) (s.rp b) := by
    rw [rp_merge h ha hb hMl, hM, if_pos rfl]
    omega
  have h4 : ∀ x, x < s.t.length → x ≠ max (s.rp a) (s.rp b) → ((mergeS s a b).rp x = x ↔ s.rp x = x) := fun x hx hxM => by
    rw [rp_merge h ha hb hx]
    have hle := h.rle x hx
    split
    · rename_i e
      constructor
      · intro h'; omega
      · intro h'; omega
    · rfl
  refine ⟨hMl, hM, h3, h4, by unfold mergeS; rw [if_neg hne], by unfold mergeS; rw [if_neg hne], ?_⟩
  unfold dc
  rw [t_merge]
  have hcg : (List.range s.t.length).countP (fun x => decide ((mergeS s a b).rp x ≠ x)) = (List.range s.t.length).countP (fun x => if x = max (s.rp a) (s.rp b) then true else decide (s.rp x ≠ x)) := List.countP_congr fun x hx => by
    have hx' : x < s.t.length := by simpa using hx
    by_cases e : x = max (s.rp a) (s.rp b)
    · rw [if_pos e, e]; simp only [decide_eq_true_eq]; exact ⟨fun _ => trivial, fun _ => h3⟩
    · rw [if_neg e]; simp only [decide_eq_true_eq]; exact not_congr (h4 x hx' e)
  rw [hcg]
  refine countP_flip (M := max (s.rp a) (s.rp b)) (by simpa using hM) (by simp) (fun x hx => by rw [if_neg hx]) _ hMl
theorem QI.merge (h : Inv g s) {k c0 : Nat} (hq : QI g k c0 s) (hk : k < s.q.length ∨ (k = s.q.length ∧ c0 = 0)) {a b : Nat} (ha : a < s.t.length) (hb : b < s.t.length) : QI g k c0 (mergeS s a b) := by
  by_cases hne : s.rp a = s.rp b
  · unfold mergeS; rw [if_pos hne]; exact hq
  · obtain ⟨m1, m2, m3, m4, m5, m6, m7⟩ := merge_dead h ha hb hne
    have ht := t_merge s a b
    have hl : (mergeS s a b).q.length = s.q.length + 1 := by rw [m5]; simp
    have hold : ∀ j, j < s.q.length → (mergeS s a b).q.getD j 0 = s.q.getD j 0 := fun j hj => by rw [m5]; simp [List.getD_eq_getElem?_getD, List.getElem?_append_left hj]
    have hnew : (mergeS s a b).q.getD s.q.length 0 = max (s.rp a) (s.rp b) := by rw [m5]; simp [List.getD_eq_getElem?_getD]
    refine ⟨fun x hx hd c hc h0 => ?_, fun j hj => ?_, by rw [hl, m7]; have := hq.cnt; omega, by rw [m6, m7, ht]; have := hq.lv; omega⟩
    · rw [ht] at hx h0
      by_cases e : x = max (s.rp a) (s.rp b)
      · exact ⟨s.q.length, by omega, by rw [hnew, e], by rcases hk with hk | ⟨hk, h0'⟩ <;> omega⟩
      · obtain ⟨j, h1, h2, h3⟩ := hq.dead x hx (fun h' => hd ((m4 x hx e).2 h')) c hc h0
        exact ⟨j, by omega, by rw [hold j h1]; exact h2, h3⟩
    · rw [ht]
      rcases Nat.lt_or_ge j s.q.length with h1 | h1
      · rw [hold j h1]
        obtain ⟨h2, h3⟩ := hq.qd j h1
        refine ⟨h2, fun h' => ?_⟩
        by_cases e : s.q.getD j 0 = max (s.rp a) (s.rp b)
        · rw [e] at h3; exact h3 m2
        · exact h3 ((m4 _ h2 e).1 h')
      · obtain rfl : j = s.q.length := by omega
        rw [hnew]
        exact ⟨m1, m3⟩
theorem qlen_merge (s : St) (a b : Nat) : s.q.length ≤ (mergeS s a b).q.length ∧ ∀ j, j < s.q.length → (mergeS s a b).q.getD j 0 = s.q.getD j 0 := by
  unfold mergeS
  split
  · exact ⟨Nat.le_refl _, fun _ _ => rfl⟩
  · exact ⟨by simp, fun j hj => by simp [List.getD_eq_getElem?_getD, List.getElem?_append_left hj]⟩
theorem most_merge (s : St) (a b : Nat) : (mergeS s a b).most = s.most := by unfold mergeS; split <;> rfl
theorem step_q (h : Inv g s) {k c : Nat} (hq : QI g k c s) (hk : k < s.q.length) (hc : c < 2 * g) : QI g k (c + 1) (stepS (s.q.getD k 0) c s) ∧ s.q.length ≤ (stepS (s.q.getD k 0) c s).q.length ∧ (∀ j, j < s.q.length → (stepS (s.q.getD k 0) c s).q.getD j 0 = s.q.getD j 0) ∧ (stepS (s.q.getD k 0) c s).most = s.most := by
  obtain ⟨he, hdead⟩ := hq.qd k hk
  generalize hE : s.q.getD k 0 = e at *
  unfold stepS
  by_cases hd : s.t.at e c < 0
  · rw [if_pos hd]
    refine ⟨⟨fun x hx hdx c' hc' h0 => ?_, hq.qd, hq.cnt, hq.lv⟩, Nat.le_refl _, fun _ _ => rfl, rfl⟩
    obtain ⟨j, h1, h2, h3⟩ := hq.dead x hx hdx c' hc' h0
    refine ⟨j, h1, h2, ?_⟩
    rcases h3 with h3 | ⟨h3, h4⟩
    · exact .inl h3
    · refine .inr ⟨h3, ?_⟩
      rcases Nat.lt_or_ge c c' with h5 | h5
      · exact h5
      · obtain rfl : c = c' := by omega
        rw [← h3, hE] at h2
        rw [← h2] at h0
        omega
  · rw [if_neg hd]
    have hd' : 0 ≤ s.t.at e c := by omega
    have hcut := h.cut he hc hd'
    have hat := at_cut h he hc hd'
    have hdn : (s.t.at e c).toNat < s.t.length := by have := h.bd e he c hc; omega
    have hun := h.rlt he
    have hvn := h.rlt hdn
    have hf := flp_lt2 hc
    have hlen := length_cut s.t e c
    have hq1 : QI g k (c + 1) { s with t := cutT s.t e c } := by
      refine ⟨fun x hx hdx c' hc' h0 => ?_, fun j hj => ?_, ?_, ?_⟩
      · simp only [hlen] at hx
        simp only at h0
        rw [hat] at h0
        by_cases hz : (x = e ∧ c' = c) ∨ (x = (s.t.at e c).toNat ∧ c' = flp c)
        · rw [if_pos hz] at h0; omega
        · rw [if_neg hz] at h0
          obtain ⟨j, h1, h2, h3⟩ := hq.dead x hx hdx c' hc' h0
          refine ⟨j, h1, h2, ?_⟩
          rcases h3 with h3 | ⟨h3, h4⟩
          · exact .inl h3
          · refine .inr ⟨h3, ?_⟩
            rcases Nat.lt_or_ge c c' with h5 | h5
            · exact h5
            · obtain rfl : c = c' := by omega
              rw [← h3, hE] at h2
              exact absurd (.inl ⟨h2.symm, rfl⟩) hz
      · simp only [hlen]; exact hq.qd j hj
      · have := hq.cnt
        unfold dc at this ⊢
        simp only [hlen]
        exact this
      · have := hq.lv
        unfold dc at this ⊢
        simp only [hlen]
        exact this
    generalize hs1 : ({ s with t := cutT s.t e c } : St) = s1 at *
    have ht1 : s1.t = cutT s.t e c := by rw [← hs1]
    have hq1' : s1.q = s.q := by rw [← hs1]
    have hm1 : s1.most = s.most := by rw [← hs1]
    have hrp1 : ∀ x, s1.rp x = s.rp x := fun x => by rw [← hs1]; rfl
    have hn1 : s1.t.length = s.t.length := by rw [ht1, hlen]
    rw [← ht1] at hat ⊢
    by_cases h1 : 0 ≤ s1.t.at (s.rp e) c
    · rw [if_pos h1]
      have hw := (hcut.bd (s.rp e) (by omega) c hc).2
      obtain ⟨l1, l2⟩ := qlen_merge s1 (s1.t.at (s.rp e) c).toNat (s.rp (s.t.at e c).toNat)
      rw [hq1'] at l1 l2
      exact ⟨hq1.merge hcut (.inl (by rw [hq1']; exact hk)) (by omega) (by omega), l1, l2, by rw [most_merge, hm1]⟩
    · rw [if_neg h1]
      by_cases h2 : 0 ≤ s1.t.at (s.rp (s.t.at e c).toNat) (flp c)
      · rw [if_pos h2]
        have hw := (hcut.bd (s.rp (s.t.at e c).toNat) (by omega) (flp c) hf).2
        obtain ⟨l1, l2⟩ := qlen_merge s1 (s1.t.at (s.rp (s.t.at e c).toNat) (flp c)).toNat (s.rp e)
        rw [hq1'] at l1 l2
        exact ⟨hq1.merge hcut (.inl (by rw [hq1']; exact hk)) (by omega) (by omega), l1, l2, by rw [most_merge, hm1]⟩
      · rw [if_neg h2]
        have haj := at_join hcut (u := s.rp e) (v := s.rp (s.t.at e c).toNat) (c := c) (by omega) (by omega) hc
        have hlj := length_join s1.t (s.rp e) c (s.rp (s.t.at e c).toNat)
        refine ⟨⟨fun x hx hdx c' hc' h0 => ?_, fun j hj => ?_, ?_, ?_⟩, Nat.le_refl _, fun _ _ => rfl, rfl⟩
        · simp only [hlj] at hx
          simp only at h0
          have hdx' : s.rp x ≠ x := hdx
          rw [haj, if_neg, if_neg] at h0
          · obtain ⟨j, h3, h4, h5⟩ := hq1.dead x hx (by rw [hrp1]; exact hdx') c' hc' h0
            rw [hq1'] at h3 h4
            exact ⟨j, h3, h4, h5⟩
          · rintro ⟨rfl, -⟩
            exact hdx' (h.rid e he)
          · rintro ⟨rfl, -⟩
            exact hdx' (h.rid _ hdn)
        · simp only [hlj, hn1]; exact hq.qd j hj
        · have := hq.cnt
          unfold dc at this ⊢
          simp only [hlj, hn1]
          exact this
        · have := hq.lv
          unfold dc at this ⊢
          simp only [hlj, hn1]
          exact this
/-- one row of the queue -/
theorem proc_q (h : Inv g s) {k : Nat} (hq : QI g k 0 s) (hk : k < s.q.length) : ∀ c, c ≤ 2 * g → Inv g (procTo (s.q.getD k 0) c s) ∧ Cov g s (procTo (s.q.getD k 0) c s) ∧ QI g k c (procTo (s.q.getD k 0) c s) ∧ s.q.length ≤ (procTo (s.q.getD k 0) c s).q.length ∧ (∀ j, j < s.q.length → (procTo (s.q.getD k 0) c s).q.getD j 0 = s.q.getD j 0) ∧ (procTo (s.q.getD k 0) c s).most = s.most
  | 0, _ => ⟨h, Cov.refl h, hq, Nat.le_refl _, fun _ _ => rfl, rfl⟩
  | c + 1, hc => by
    obtain ⟨h1, h2, h3, h4, h5, h6⟩ := proc_q h hq hk c (by omega)
    have he : (procTo (s.q.getD k 0) c s).q.getD k 0 = s.q.getD k 0 := h5 k hk
    have hst := step_q h1 h3 (by omega) (show c < 2 * g by omega)
    rw [he] at hst
    obtain ⟨k1, k2, k3, k4⟩ := hst
    have hlt : s.q.getD k 0 < (procTo (s.q.getD k 0) c s).t.length := by rw [h2.n]; exact (hq.qd k hk).1
    obtain ⟨c1, c2⟩ := step_cov h1 hlt (show c < 2 * g by omega)
    exact ⟨c1, h2.trans h c2, k1, Nat.le_trans h4 k2, fun j hj => (k3 j (by omega)).trans (h5 j hj), k4.trans h6⟩
/-- the whole queue, as far as k -/
theorem coinTo_inv (h : Inv g s) (hq : QI g 0 0 s) : ∀ k, Inv g (coinTo (2 * g) k s) ∧ Cov g s (coinTo (2 * g) k s) ∧ QI g (min k (coinTo (2 * g) k s).q.length) 0 (coinTo (2 * g) k s) ∧ (coinTo (2 * g) k s).most = s.most
  | 0 => ⟨h, Cov.refl h, by rw [Nat.zero_min]; exact hq, rfl⟩
  | k + 1 => by
    obtain ⟨h1, h2, h3, h4⟩ := coinTo_inv h hq k
    unfold coinTo at h1 h2 h3 h4 ⊢
    rw [foldTo]
    generalize foldTo (fun k s => if k < s.q.length then procTo (s.q.getD k 0) (2 * g) s else s) k s = s1 at *
    by_cases hk : k < s1.q.length
    · rw [if_pos hk]
      rw [show min k s1.q.length = k by omega] at h3
      obtain ⟨p1, p2, p3, p4, -, p6⟩ := proc_q h1 h3 hk (2 * g) (Nat.le_refl _)
      refine ⟨p1, h2.trans h p2, ?_, p6.trans h4⟩
      rw [show min (k + 1) (procTo (s1.q.getD k 0) (2 * g) s1).q.length = k + 1 by omega]
      refine ⟨fun x hx hd c hc h0 => ?_, p3.qd, p3.cnt, p3.lv⟩
      obtain ⟨j, j1, j2, j3⟩ := p3.dead x hx hd c hc h0
      exact ⟨j, j1, j2, by omega⟩
    · rw [if_neg hk]
      refine ⟨h1, h2, ?_, h4⟩
      rw [show min (k + 1) s1.q.length = min k s1.q.length by omega]
      exact h3
/-- a coincidence -/
theorem coin_rest (h : Rest g s) {a b : Nat} (ha : a < s.t.length) (hb : b < s.t.length) : Rest g (coinS (2 * g) s a b) ∧ Cov g s (coinS (2 * g) s a b) ∧ (coinS (2 * g) s a b).rp a = (coinS (2 * g) s a b).rp b ∧ (coinS (2 * g) s a b).most = s.most := by
  have h0 : Inv g { s with q := [] } := ⟨h.inv.len, h.inv.bd, h.inv.rl, h.inv.rle, h.inv.rid, h.inv.back⟩
  have hq0 : QI g 0 0 { s with q := [] } := ⟨fun x hx hd c hc h0 => absurd h0 (by have := h.dead x hx hd c hc; simp only at h0; omega), fun j hj => absurd hj (by simp), Nat.zero_le _, h.lv⟩
  have hm := h0.merge (a := a) (b := b) ha hb
  obtain ⟨hc, he⟩ := Cov.merge h0 (a := a) (b := b) ha hb
  have hqm := hq0.merge h0 (.inr ⟨rfl, rfl⟩) (a := a) (b := b) ha hb
  obtain ⟨r1, r2, r3, r4⟩ := coinTo_inv hm hqm s.t.length
  have hn : (mergeS { s with q := [] } a b).t.length = s.t.length := by rw [t_merge]
  have hC : Cov g { s with q := [] } (coinTo (2 * g) s.t.length (mergeS { s with q := [] } a b)) := hc.trans h0 r2
  have hC' : Cov g s (coinTo (2 * g) s.t.length (mergeS { s with q := [] } a b)) := ⟨hC.n, hC.coarse, hC.edge⟩
  have hfin : (coinTo (2 * g) s.t.length (mergeS { s with q := [] } a b)).q.length ≤ s.t.length := by
    have h1 := r3.cnt
    have h2 := dc_le (coinTo (2 * g) s.t.length (mergeS { s with q := [] } a b))
    have h3 := hC.n
    simp only at h3
    omega
  rw [show min s.t.length (coinTo (2 * g) s.t.length (mergeS { s with q := [] } a b)).q.length = (coinTo (2 * g) s.t.length (mergeS { s with q := [] } a b)).q.length by omega] at r3
  refine ⟨⟨r1, fun x hx hd c hc' => ?_, r3.lv⟩, hC', ?_, ?_⟩
  · rcases Int.lt_or_le ((coinS (2 * g) s a b).t.at x c) 0 with h' | h'
    · exact h'
    · obtain ⟨j, j1, -, j3⟩ := r3.dead x hx hd c hc' h'
      omega
  · unfold coinS
    rw [← r2.coarse a (by rw [hn]; exact ha), ← r2.coarse b (by rw [hn]; exact hb), he]
  · unfold coinS
    rw [r4, most_merge]
end
end Go.Proofs.Ct
