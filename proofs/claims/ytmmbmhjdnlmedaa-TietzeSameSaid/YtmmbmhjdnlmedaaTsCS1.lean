/- Coset tables, plainly: check, the standard table, representatives. No program in sight; Coset tables, plainly: the order of a table, standard tables, the lengths of representatives; Words and Schreier systems, plainly; Schreier systems, plainly: the places of pairs; The letters of representatives; Presentations of subgroups, plainly: which relators, in which order, and when they are too long; Coset enumeration, plainly: states, coincidences, and what they keep. No program in sight; Coset enumeration, plainly: a coincidence keeps the edges, and empties the rows of the dead; Coset enumeration, plainly: the queue of a coincidence, and what stands behind it; Coset enumeration, plainly: what a state that goes on keeps; adding, defining, joining, scanning, filling; Coset enumeration, plainly: the whole procedure, and the table it ends with; Ways of words; what was scanned is closed; Coset enumeration, plainly: the table of the living, and that it can be made standard; What an enumeration ends with, plainly: relators are closed everywhere, the subgroup's words at 0; the table of the living; Tables that are full, maps between them, and the standard table as a table with other numbers; Universality, plainly: an enumeration's state maps onto whatever satisfies its relators. -/
namespace Go.Proofs.Ct
def foldTo {α : Type} (f : Nat → α → α) : Nat → α → α
  | 0, x => x
  | k + 1, x => f k (foldTo f k x)
theorem foldTo_inv {α : Type} {f : Nat → α → α} {p : Nat → α → Prop} {x : α} (h0 : p 0 x) : ∀ (n : Nat) (_ : ∀ k x, k < n → p k x → p (k + 1) (f k x)), p n (foldTo f n x)
  | 0, _ => h0
  | n + 1, hf => hf n _ (Nat.lt_succ_self n) (foldTo_inv h0 n (fun k x hk hx => hf k x (Nat.lt_succ_of_lt hk) hx))
abbrev Tb := List (List Int)
def Tb.row (t : Tb) (r : Nat) : List Int := t.getD r []
def Tb.at (t : Tb) (r c : Nat) : Int := (t.row r).getD c 0
/-- the first k below n with p -/
def first (p : Nat → Bool) (n : Nat) : Option Nat := (List.range n).find? p
theorem first_some {p : Nat → Bool} {n k : Nat} (hk : k < n) (hp : p k = true) (hb : ∀ j, j < k → p j = false) : first p n = some k := by
  unfold first
  rw [List.find?_range_eq_some]
  exact ⟨hp, by simpa using hk, fun j hj => by simp [hb j hj]⟩
theorem first_none {p : Nat → Bool} {n : Nat} (hb : ∀ j, j < n → p j = false) : first p n = none := by
  unfold first
  rw [List.find?_eq_none]
  intro x hx
  simp [hb x (by simpa using hx)]
theorem first_none' {p : Nat → Bool} {n : Nat} (h : first p n = none) : ∀ j, j < n → p j = false := by
  intro j hj
  unfold first at h
  rw [List.find?_eq_none] at h
  simpa using h j (by simpa using hj)
theorem first_some' {p : Nat → Bool} {n k : Nat} (h : first p n = some k) : k < n ∧ p k = true ∧ ∀ j, j < k → p j = false := by
  unfold first at h
  rw [List.find?_range_eq_some] at h
  exact ⟨by simpa using h.2.1, h.1, fun j hj => by simpa using h.2.2 j hj⟩
/-- the column of the inverse letter -/
def flp (c : Nat) : Nat := if c % 2 = 0 then c + 1 else c - 1
def wide (g : Int) (t : Tb) : Bool := decide (g < 1) || decide (16 < g) || decide (t.length < 1) || decide (20000 < t.length)
structure TGood (g : Nat) (t : Tb) : Prop where
  g1 : 1 ≤ g
  g16 : g ≤ 16
  n1 : 1 ≤ t.length
  n2 : t.length ≤ 20000
  len : ∀ r, r < t.length → (t.row r).length = 2 * g
  bd : ∀ r, r < t.length → ∀ c, c < 2 * g → -1 ≤ t.at r c ∧ t.at r c < t.length
  back : ∀ r, r < t.length → ∀ c, c < 2 * g → 0 ≤ t.at r c → t.at (t.at r c).toNat (flp c) = r
/-- The order in which the cosets are met, and their numbers. -/
def visit (l : List Int) (s : Int) : List Int := if decide (s < 0) || l.contains s then l else l ++ [s]
def visitTo (row : List Int) (c : Nat) (l : List Int) : List Int := foldTo (fun c l => visit l (row.getD c 0)) c l
def ordTo (t : Tb) (b : Int) : Nat → List Int
  | 0 => [b]
  | k + 1 => if k < (ordTo t b k).length then visitTo (t.row ((ordTo t b k).getD k 0).toNat) (t.row ((ordTo t b k).getD k 0).toNat).length (ordTo t b k) else ordTo t b k
def ord (t : Tb) (b : Int) : List Int := ordTo t b t.length
def numOf (l : List Int) (x : Int) : Int := (l.idxOf x : Int)
def neg (row : List Int) : Bool := row.any fun s => decide (s < 0)
def std (t : Tb) (b : Int) : Option Tb :=
  if (ord t b).length = t.length ∧ t.any neg = false then some ((ord t b).map fun r => (t.row r.toNat).map (numOf (ord t b))) else none
def complete (t : Tb) : Bool := !(t.any fun row => row.contains (-1))
def letter (c : Nat) : Int := if c % 2 = 1 then -((c / 2 : Nat) + 1) else (c / 2 : Nat) + 1
abbrev W := List Int
def repCol (t : Tb) (r c : Nat) (out : List W) : List W := if t.at r c = (out.length : Int) then out ++ [out.getD r [] ++ [letter c]] else out
def repRow (t : Tb) (r : Nat) (out : List W) : List W := foldTo (repCol t r) (t.row r).length out
def reps (t : Tb) : List W := foldTo (repRow t) t.length [[]]
end Go.Proofs.Ct
namespace Go.Proofs.Ct
theorem visit_pre (l : List Int) (s : Int) : l <+: visit l s := by
  unfold visit
  split
  · exact List.prefix_refl _
  · exact List.prefix_append _ _
theorem visitTo_pre (row : List Int) (c : Nat) (l : List Int) : l <+: visitTo row c l := by
  induction c with
  | zero => exact List.prefix_refl _
  | succ c ih => exact ih.trans (visit_pre _ _)
theorem visitTo_mono (row : List Int) {c d : Nat} (h : c ≤ d) (l : List Int) : visitTo row c l <+: visitTo row d l := by
  obtain ⟨e, rfl⟩ := Nat.exists_eq_add_of_le h
  clear h
  induction e with
  | zero => exact List.prefix_refl _
  | succ e ih => exact ih.trans (visit_pre _ _)
theorem ordTo_pre (t : Tb) (b : Int) (k : Nat) : ordTo t b k <+: ordTo t b (k + 1) := by
  rw [ordTo]
  split
  · exact visitTo_pre _ _ _
  · exact List.prefix_refl _
theorem ordTo_mono (t : Tb) (b : Int) {k m : Nat} (h : k ≤ m) : ordTo t b k <+: ordTo t b m := by
  obtain ⟨e, rfl⟩ := Nat.exists_eq_add_of_le h
  clear h
  induction e with
  | zero => exact List.prefix_refl _
  | succ e ih => exact ih.trans (ordTo_pre _ _ _)
theorem ordTo_stable (t : Tb) (b : Int) {k : Nat} (h : (ordTo t b k).length ≤ k) {m : Nat} (hm : k ≤ m) : ordTo t b m = ordTo t b k := by
  obtain ⟨e, rfl⟩ := Nat.exists_eq_add_of_le hm
  clear hm
  induction e with
  | zero => rfl
  | succ e ih =>
    rw [← Nat.add_assoc, ordTo, ih, if_neg (by omega)]
/-- a list of cosets below n, without repeats -/
structure Cos (n : Nat) (l : List Int) : Prop where
  nd : l.Nodup
  bd : ∀ x ∈ l, 0 ≤ x ∧ x < n
theorem Cos.visit {n : Nat} {l : List Int} (h : Cos n l) {s : Int} (hs : s < n) : Cos n (visit l s) := by
  unfold Ct.visit
  split
  · exact h
  · rename_i hc
    simp at hc
    refine ⟨List.nodup_append.2 ⟨h.nd, by simp, fun a ha b hb => ?_⟩, fun x hx => ?_⟩
    · simp at hb
      subst hb
      intro e
      subst e
      exact hc.2 ha
    · rw [List.mem_append] at hx
      rcases hx with hx | hx
      · exact h.bd x hx
      · simp at hx
        subst hx
        exact ⟨hc.1, hs⟩
theorem Cos.visitTo {n : Nat} {row : List Int} (hr : ∀ c, c < row.length → row.getD c 0 < n) {l : List Int} (h : Cos n l) : ∀ {c : Nat}, c ≤ row.length → Cos n (visitTo row c l)
  | 0, _ => h
  | c + 1, hc => (Cos.visitTo hr h (by omega)).visit (hr c (by omega))
theorem Cos.get {n : Nat} {l : List Int} (h : Cos n l) {k : Nat} (hk : k < l.length) : 0 ≤ l.getD k 0 ∧ l.getD k 0 < n := by
  rw [List.getD_eq_getElem?_getD, List.getElem?_eq_getElem hk]
  exact h.bd _ (List.getElem_mem hk)
theorem TGood.lt {g : Nat} {t : Tb} (h : TGood g t) {r : Nat} (hr : r < t.length) : ∀ c, c < (t.row r).length → (t.row r).getD c 0 < t.length := fun c hc => by
  rw [h.len r hr] at hc
  exact (h.bd r hr c hc).2
theorem Cos.ordTo {g : Nat} {t : Tb} (hg : TGood g t) {b : Int} (hb : 0 ≤ b) (hb' : b < t.length) : ∀ k, Cos t.length (ordTo t b k)
  | 0 => ⟨by simp [Ct.ordTo], fun x hx => by
      simp [Ct.ordTo] at hx
      subst hx
      exact ⟨hb, hb'⟩⟩
  | k + 1 => by
    have ih := Cos.ordTo hg hb hb' k
    rw [Ct.ordTo]
    split
    · rename_i hk
      have hx := ih.get hk
      exact ih.visitTo (hg.lt (by omega)) (Nat.le_refl _)
    · exact ih
theorem length_le_of_nodup : ∀ {n : Nat} {l : List Int}, Cos n l → l.length ≤ n
  | 0, l, h => by
    rcases l with _ | ⟨x, l⟩
    · simp
    · have := h.bd x (by simp)
      omega
  | n + 1, l, h => by
    have h1 : Cos n (l.erase n) := ⟨h.nd.erase _, fun x hx => by
      have h2 := (List.Nodup.mem_erase_iff h.nd).1 hx
      have h3 := h.bd x h2.2
      have : x ≠ (n : Int) := h2.1
      omega⟩
    have h4 := length_le_of_nodup h1
    rw [List.length_erase] at h4
    split at h4 <;> omega
theorem idxOf_pre {l o : List Int} (h : l <+: o) {x : Int} (hx : x ∈ l) : numOf o x = numOf l x := by
  obtain ⟨m, rfl⟩ := h
  unfold numOf
  rw [List.idxOf_append, if_pos hx]
theorem numOf_new {l o : List Int} {x : Int} (hx : x ∉ l) (h : l ++ [x] <+: o) : numOf o x = l.length := by
  obtain ⟨m, rfl⟩ := h
  unfold numOf
  rw [List.idxOf_append, if_pos (by simp), List.idxOf_append, if_neg hx]
  simp
theorem mem_visit {l : List Int} {s : Int} (h : 0 ≤ s) : s ∈ visit l s := by
  unfold visit
  split
  · rename_i hc
    simp at hc
    rcases hc with hc | hc
    · omega
    · exact hc
  · simp
theorem mem_visitTo {row : List Int} {c d : Nat} (h : c < d) (h0 : 0 ≤ row.getD c 0) (l : List Int) : row.getD c 0 ∈ visitTo row d l :=
  (visitTo_mono row (by omega : c + 1 ≤ d) l).subset (mem_visit h0)
theorem pre_get {l o : List Int} (h : l <+: o) {k : Nat} (hk : k < l.length) : o.getD k 0 = l.getD k 0 := by
  obtain ⟨m, rfl⟩ := h
  simp [List.getD_eq_getElem?_getD, List.getElem?_append, hk]
end Go.Proofs.Ct
namespace Go.Proofs.Ct
def opp (x y : Int) : Bool := decide (x ≠ 0) && decide (y = -x)
def push (st : W) (x : Int) : W := if decide (0 < st.length) && opp (st.getD (st.length - 1) 0) x then st.take (st.length - 1) else st ++ [x]
def redTo (w : W) (k : Nat) : W := foldTo (fun k st => push st (w.getD k 0)) k []
def red (w : W) : W := redTo w w.length
def inv (w : W) : W := w.reverse.map fun x => -x
def mulW (a b : W) : W := red (a ++ b)
def invW (a : W) : W := red (inv a)
theorem push_mem {st : W} {x y : Int} (h : y ∈ push st x) : y ∈ st ∨ y = x := by
  unfold push at h
  split at h
  · exact .inl (List.mem_of_mem_take h)
  · simpa using h
theorem redTo_mem {w : W} : ∀ {k : Nat}, k ≤ w.length → ∀ {y : Int}, y ∈ redTo w k → y ∈ w
  | 0, _, y, h => by simp [redTo, foldTo] at h
  | k + 1, hk, y, h => by
    rcases push_mem h with h | h
    · exact redTo_mem (by omega) h
    · rw [h, List.getD_eq_getElem?_getD, List.getElem?_eq_getElem (by omega : k < w.length)]
      exact List.getElem_mem _
theorem push_length (st : W) (x : Int) : (push st x).length ≤ st.length + 1 := by
  unfold push
  split
  · simp; omega
  · simp
theorem redTo_length (w : W) : ∀ k, (redTo w k).length ≤ k
  | 0 => by simp [redTo, foldTo]
  | k + 1 => by
    have := push_length (redTo w k) (w.getD k 0)
    have := redTo_length w k
    show (push (redTo w k) (w.getD k 0)).length ≤ k + 1
    omega
theorem red_mem {w : W} {y : Int} (h : y ∈ red w) : y ∈ w := redTo_mem (Nat.le_refl _) h
theorem red_length (w : W) : (red w).length ≤ w.length := redTo_length _ _
theorem length_inv (w : W) : (inv w).length = w.length := by simp [inv]
theorem mem_inv {w : W} {y : Int} (h : y ∈ inv w) : -y ∈ w := by
  simp [inv] at h
  obtain ⟨a, ha, rfl⟩ := h
  simpa using ha
def dest (t : Tb) (r : Nat) (g : Nat) : Nat := (t.at r (2 * g)).toNat
/-- no tree edge: the coset r and the generator g + 1 -/
def nt (t : Tb) (R : List W) (r g : Nat) : Bool :=
  !(decide (R.getD (dest t r g) [] = R.getD r [] ++ [((g + 1 : Nat) : Int)])) && !(decide (R.getD r [] = R.getD (dest t r g) [] ++ [-((g + 1 : Nat) : Int)]))
def pairRow (t : Tb) (R : List W) (r : Nat) (g : Nat) (l : List (Nat × Nat)) : List (Nat × Nat) := foldTo (fun g l => if nt t R r g then l ++ [(r, g)] else l) g l
def pairTo (t : Tb) (R : List W) (gens r : Nat) : List (Nat × Nat) := foldTo (fun r l => pairRow t R r gens l) r []
def pairs (t : Tb) (R : List W) (gens : Nat) : List (Nat × Nat) := pairTo t R gens t.length
/-- the number of a pair: the pairs up to it -/
def number (t : Tb) (R : List W) (gens r g : Nat) : Int := if nt t R r g then (pairRow t R r (g + 1) (pairTo t R gens r)).length else 0
def stepW (t : Tb) (r : Nat) (x : Int) : Nat := (t.at r (if 0 < x then (2 * x - 2).toNat else (-2 * x - 1).toNat)).toNat
def letN (t : Tb) (R : List W) (gens r : Nat) (x : Int) : Int :=
  if 0 < x then number t R gens r (x - 1).toNat else -number t R gens (stepW t r x) (-x - 1).toNat
end Go.Proofs.Ct
namespace Go.Proofs.Ct
theorem pairRow_succ (t : Tb) (R : List W) (r g : Nat) (l : List (Nat × Nat)) : pairRow t R r (g + 1) l = if nt t R r g then pairRow t R r g l ++ [(r, g)] else pairRow t R r g l := rfl
theorem mem_pairRow {t : Tb} {R : List W} {r : Nat} {l : List (Nat × Nat)} {p : Nat × Nat} : ∀ {g : Nat}, p ∈ pairRow t R r g l → p ∈ l ∨ (p.1 = r ∧ p.2 < g ∧ nt t R r p.2 = true)
  | 0, h => .inl h
  | g + 1, h => by
    rw [pairRow_succ] at h
    split at h
    · rename_i hn
      rcases List.mem_append.1 h with h | h
      · rcases mem_pairRow h with h | ⟨h1, h2, h3⟩
        · exact .inl h
        · exact .inr ⟨h1, by omega, h3⟩
      · have e : p = (r, g) := by simpa using h
        subst e
        exact .inr ⟨rfl, Nat.lt_succ_self g, hn⟩
    · rcases mem_pairRow h with h | ⟨h1, h2, h3⟩
      · exact .inl h
      · exact .inr ⟨h1, by omega, h3⟩
theorem mem_pairTo {t : Tb} {R : List W} {gens : Nat} {p : Nat × Nat} : ∀ {r : Nat}, p ∈ pairTo t R gens r → p.1 < r ∧ p.2 < gens ∧ nt t R p.1 p.2 = true
  | 0, h => by simp [pairTo, foldTo] at h
  | r + 1, h => by
    rcases mem_pairRow h with h | ⟨h1, h2, h3⟩
    · have := mem_pairTo h
      exact ⟨by omega, this.2⟩
    · exact ⟨by omega, h2, by rw [h1]; exact h3⟩
theorem pairs_mem {t : Tb} {R : List W} {gens : Nat} {p : Nat × Nat} (h : p ∈ pairs t R gens) : p.1 < t.length ∧ p.2 < gens := ⟨(mem_pairTo h).1, (mem_pairTo h).2.1⟩
end Go.Proofs.Ct
namespace Go.Proofs.Ct
theorem mem_repCol {t : Tb} {r c : Nat} {out : List W} {w : W} (h : w ∈ repCol t r c out) : w ∈ out ∨ w = out.getD r [] ++ [letter c] := by
  unfold repCol at h
  split at h
  · simpa using h
  · exact .inl h
theorem getD_mem_or {out : List W} {r : Nat} : out.getD r [] ∈ out ∨ out.getD r [] = [] := by
  rw [List.getD_eq_getElem?_getD]
  rcases Nat.lt_or_ge r out.length with h | h
  · rw [List.getElem?_eq_getElem h]; exact .inl (List.getElem_mem h)
  · rw [List.getElem?_eq_none h]; exact .inr rfl
def Lets (N : Nat) (out : List W) : Prop := ∀ w ∈ out, ∀ x ∈ w, ∃ c, c < N ∧ x = letter c
theorem Lets.col {t : Tb} {N r c : Nat} {out : List W} (h : Lets N out) (hc : c < N) : Lets N (repCol t r c out) := fun w hw x hx => by
  rcases mem_repCol hw with hw | rfl
  · exact h w hw x hx
  · rcases List.mem_append.1 hx with hx | hx
    · rcases @getD_mem_or out r with h1 | h1
      · exact h _ h1 x hx
      · rw [h1] at hx; cases hx
    · exact ⟨c, hc, by simpa using hx⟩
theorem Lets.row {t : Tb} {N r : Nat} {out : List W} (h : Lets N out) (hl : (t.row r).length ≤ N) : Lets N (repRow t r out) :=
  foldTo_inv (p := fun _ out => Lets N out) h _ fun c x hc hx => hx.col (by omega)
theorem letter_range {g c : Nat} (h : c < 2 * g) : -(g : Int) ≤ letter c ∧ letter c ≤ g ∧ letter c ≠ 0 := by
  unfold letter
  split <;> omega
end Go.Proofs.Ct
namespace Go.Proofs.Ct
/-- the column of a letter -/
def col (x : Int) : Nat := if 0 < x then (2 * x - 2).toNat else (-2 * x - 1).toNat
/-- where a word leads; -1: nowhere -/
def leadTo (t : Tb) (r : Int) (w : W) (k : Nat) : Int := foldTo (fun k r => if r < 0 then r else t.at r.toNat (col (w.getD k 0))) k r
def leads (t : Tb) (r : Int) (w : W) : Int := leadTo t r w w.length
/-- all words of a list lead from r to r -/
def staysB (t : Tb) (r : Int) (l : List W) : Bool := l.all fun w => decide (leads t r w = r)
def holdsB (rels sub : List W) (t : Tb) : Bool := complete t && staysB t 0 sub && (List.range t.length).all fun r => staysB t (r : Int) rels
theorem leadTo_succ (t : Tb) (r : Int) (w : W) (k : Nat) : leadTo t r w (k + 1) = if leadTo t r w k < 0 then leadTo t r w k else t.at (leadTo t r w k).toNat (col (w.getD k 0)) := rfl
end Go.Proofs.Ct
namespace Go.Proofs.Ct
/-- the element (r, c) set -/
def set2 (t : Tb) (r c : Nat) (v : Int) : Tb := t.set r ((t.row r).set c v)
theorem length_set2 (t : Tb) (r c : Nat) (v : Int) : (set2 t r c v).length = t.length := by simp [set2]
theorem row_set2 (t : Tb) (r c : Nat) (v : Int) (k : Nat) : (set2 t r c v).row k = if r = k ∧ r < t.length then (t.row r).set c v else t.row k := by
  unfold set2 Tb.row
  rw [List.getD_eq_getElem?_getD, List.getElem?_set]
  by_cases h : r = k
  · subst h
    by_cases h2 : r < t.length
    · simp [h2]
    · simp [h2, List.getD_eq_getElem?_getD]
  · simp [h, List.getD_eq_getElem?_getD]
theorem rowlen_set2 (t : Tb) (r c : Nat) (v : Int) (k : Nat) : ((set2 t r c v).row k).length = (t.row k).length := by
  rw [row_set2]
  split
  · rename_i h; rw [← h.1]; simp
  · rfl
theorem at_set2 (t : Tb) (r c : Nat) (v : Int) (k j : Nat) : (set2 t r c v).at k j = if r = k ∧ c = j ∧ r < t.length ∧ c < (t.row r).length then v else t.at k j := by
  unfold Tb.at
  rw [row_set2]
  by_cases h : r = k ∧ r < t.length
  · rw [if_pos h]
    obtain ⟨rfl, hr⟩ := h
    rw [List.getD_eq_getElem?_getD, List.getElem?_set]
    by_cases hc : c = j
    · subst hc
      by_cases hl : c < (t.row r).length
      · simp [hl, hr]
      · simp [hl, List.getD_eq_getElem?_getD]
    · simp [hc, List.getD_eq_getElem?_getD]
  · rw [if_neg h, if_neg (fun h' => h ⟨h'.1, h'.2.2.1⟩)]
theorem flp_flp (c : Nat) : flp (flp c) = c := by unfold flp; split <;> split <;> omega
theorem flp_lt2 {c g : Nat} (h : c < 2 * g) : flp c < 2 * g := by unfold flp; split <;> omega
/-- the state of an enumeration: the rows, the representatives, the queue, how many live, how many at most -/
structure St where
  t : Tb
  rep : List Nat
  q : List Nat
  live : Int
  most : Int
def St.rp (s : St) (x : Nat) : Nat := s.rep.getD x 0
def mergeS (s : St) (a b : Nat) : St :=
  if s.rp a = s.rp b then s else { s with rep := s.rep.map fun x => if x = max (s.rp a) (s.rp b) then min (s.rp a) (s.rp b) else x, q := s.q ++ [max (s.rp a) (s.rp b)], live := s.live - 1 }
def joinT (t : Tb) (r c d : Nat) : Tb := set2 (set2 t r c (d : Int)) d (flp c) (r : Int)
def cutT (t : Tb) (e c : Nat) : Tb := set2 (set2 t e c (-1)) (t.at e c).toNat (flp c) (-1)
def stepS (e c : Nat) (s : St) : St :=
  if s.t.at e c < 0 then s else
  if 0 ≤ (cutT s.t e c).at (s.rp e) c then mergeS { s with t := cutT s.t e c } ((cutT s.t e c).at (s.rp e) c).toNat (s.rp (s.t.at e c).toNat) else
  if 0 ≤ (cutT s.t e c).at (s.rp (s.t.at e c).toNat) (flp c) then mergeS { s with t := cutT s.t e c } ((cutT s.t e c).at (s.rp (s.t.at e c).toNat) (flp c)).toNat (s.rp e) else
  { s with t := joinT (cutT s.t e c) (s.rp e) c (s.rp (s.t.at e c).toNat) }
/-- what always holds of a state with 2 * g columns -/
structure Inv (g : Nat) (s : St) : Prop where
  len : ∀ r, r < s.t.length → (s.t.row r).length = 2 * g
  bd : ∀ r, r < s.t.length → ∀ c, c < 2 * g → -1 ≤ s.t.at r c ∧ s.t.at r c < s.t.length
  rl : s.rep.length = s.t.length
  rle : ∀ x, x < s.t.length → s.rp x ≤ x
  rid : ∀ x, x < s.t.length → s.rp (s.rp x) = s.rp x
  back : ∀ r, r < s.t.length → ∀ c, c < 2 * g → 0 ≤ s.t.at r c → s.t.at (s.t.at r c).toNat (flp c) = r
theorem Inv.rlt {g : Nat} {s : St} (h : Inv g s) {x : Nat} (hx : x < s.t.length) : s.rp x < s.t.length := Nat.lt_of_le_of_lt (h.rle x hx) hx
/-- an edge -/
def Edge (t : Tb) (x c y : Nat) : Prop := t.at x c = (y : Int)
/-- s goes on from s0: classes grow, edges stay, seen from the classes -/
structure Cov (g : Nat) (s0 s : St) : Prop where
  n : s.t.length = s0.t.length
  coarse : ∀ x, x < s0.t.length → s.rp (s0.rp x) = s.rp x
  edge : ∀ x c y, x < s0.t.length → c < 2 * g → Edge s0.t x c y → ∃ u v, u < s0.t.length ∧ v < s0.t.length ∧ Edge s.t u c v ∧ s.rp u = s.rp x ∧ s.rp v = s.rp y
theorem Edge.lt {g : Nat} {s : St} (h : Inv g s) {x c y : Nat} (hx : x < s.t.length) (hc : c < 2 * g) (he : Edge s.t x c y) : y < s.t.length := by
  have := (h.bd x hx c hc).2
  rw [he] at this
  omega
theorem Edge.back {g : Nat} {s : St} (h : Inv g s) {x c y : Nat} (hx : x < s.t.length) (hc : c < 2 * g) (he : Edge s.t x c y) : Edge s.t y (flp c) x := by
  have := h.back x hx c hc (by rw [he]; omega)
  rw [he] at this
  unfold Edge
  simpa using this
theorem Cov.refl {g : Nat} {s : St} (h : Inv g s) : Cov g s s := ⟨rfl, fun x hx => h.rid x hx, fun x _c y hx hc he => ⟨x, y, hx, he.lt h hx hc, he, rfl, rfl⟩⟩
theorem Cov.trans {g : Nat} {a b c : St} (ha : Inv g a) (h1 : Cov g a b) (h2 : Cov g b c) : Cov g a c := by
  have hsame : ∀ x y, x < a.t.length → y < a.t.length → b.rp x = b.rp y → c.rp x = c.rp y := fun x y hx hy e => by
    rw [← h2.coarse x (by rw [h1.n]; exact hx), ← h2.coarse y (by rw [h1.n]; exact hy), e]
  refine ⟨h2.n.trans h1.n, fun x hx => ?_, fun x k y hx hk he => ?_⟩
  · have hr := ha.rlt hx
    exact hsame _ _ hr hx (h1.coarse x hx)
  · have hy := he.lt ha hx hk
    obtain ⟨u, v, hu, hv, e1, e2, e3⟩ := h1.edge x k y hx hk he
    obtain ⟨u', v', hu', hv', f1, f2, f3⟩ := h2.edge u k v (by rw [h1.n]; exact hu) hk e1
    rw [h1.n] at hu' hv'
    exact ⟨u', v', hu', hv', f1, f2.trans (hsame _ _ hu hx e2), f3.trans (hsame _ _ hv hy e3)⟩
/-- merging -/
theorem rp_merge {g : Nat} {s : St} (h : Inv g s) {a b x : Nat} (_ha : a < s.t.length) (_hb : b < s.t.length) (hx : x < s.t.length) : (mergeS s a b).rp x = if s.rp x = max (s.rp a) (s.rp b) then min (s.rp a) (s.rp b) else s.rp x := by
  unfold mergeS
  split
  · rename_i e
    rw [e, Nat.max_self, Nat.min_self]
    split
    · rename_i e2; exact e2
    · rfl
  · unfold St.rp
    simp only
    have hl : x < s.rep.length := by rw [h.rl]; exact hx
    simp [List.getD_eq_getElem?_getD, hl]
theorem t_merge (s : St) (a b : Nat) : (mergeS s a b).t = s.t := by unfold mergeS; split <;> rfl
theorem Inv.merge {g : Nat} {s : St} (h : Inv g s) {a b : Nat} (ha : a < s.t.length) (hb : b < s.t.length) : Inv g (mergeS s a b) := by
  have ht := t_merge s a b
  have hra := h.rid a ha
  have hrb := h.rid b hb
  have hla := h.rle a ha
  have hlb := h.rle b hb
  refine ⟨by rw [ht]; exact h.len, by rw [ht]; exact h.bd, ?_, fun x hx => ?_, fun x hx => ?_, by rw [ht]; exact h.back⟩
  · rw [ht]
    unfold mergeS
    split
    · exact h.rl
    · simpa using h.rl
  · rw [ht] at hx
    rw [rp_merge h ha hb hx]
    have := h.rle x hx
    split <;> omega
  · rw [ht] at hx
    have hx1 := h.rlt hx
    have hr := h.rid x hx
    rw [rp_merge h ha hb hx]
    by_cases e : s.rp x = max (s.rp a) (s.rp b)
    · rw [if_pos e]
      have hmin : min (s.rp a) (s.rp b) < s.t.length := by omega
      have hmr : s.rp (min (s.rp a) (s.rp b)) = min (s.rp a) (s.rp b) := by
        rcases Nat.le_total (s.rp a) (s.rp b) with h' | h'
        · rw [Nat.min_eq_left h']; exact hra
        · rw [Nat.min_eq_right h']; exact hrb
      rw [rp_merge h ha hb hmin, hmr]
      split
      · rfl
      · rfl
    · rw [if_neg e, rp_merge h ha hb hx1, hr, if_neg e]
theorem Cov.merge {g : Nat} {s : St} (h : Inv g s) {a b : Nat} (ha : a < s.t.length) (hb : b < s.t.length) : Cov g s (mergeS s a b) ∧ (mergeS s a b).rp a = (mergeS s a b).rp b := by
  refine ⟨⟨by rw [t_merge], fun x hx => ?_, fun x c y hx hc he => ⟨x, y, hx, he.lt h hx hc, by rw [t_merge]; exact he, rfl, rfl⟩⟩, ?_⟩
  · rw [rp_merge h ha hb hx, rp_merge h ha hb (h.rlt hx), h.rid x hx]
  · rw [rp_merge h ha hb ha, rp_merge h ha hb hb]
    split <;> split <;> omega
end Go.Proofs.Ct
namespace Go.Proofs.Ct
section
variable {g : Nat} {s : St}
theorem at_cut (h : Inv g s) {e c : Nat} (he : e < s.t.length) (hc : c < 2 * g) (_hd : 0 ≤ s.t.at e c) (k j : Nat) :
    (cutT s.t e c).at k j = if (k = e ∧ j = c) ∨ (k = (s.t.at e c).toNat ∧ j = flp c) then -1 else s.t.at k j := by
  have hb := h.bd e he c hc
  have hdn : (s.t.at e c).toNat < s.t.length := by omega
  unfold cutT
  rw [at_set2, at_set2, length_set2, rowlen_set2, h.len _ he, h.len _ hdn]
  have hf := flp_lt2 hc
  by_cases h1 : (s.t.at e c).toNat = k ∧ flp c = j
  · rw [if_pos ⟨h1.1, h1.2, hdn, hf⟩, if_pos (.inr ⟨h1.1.symm, h1.2.symm⟩)]
  · rw [if_neg (fun h' => h1 ⟨h'.1, h'.2.1⟩)]
    by_cases h2 : e = k ∧ c = j
    · rw [if_pos ⟨h2.1, h2.2, he, hc⟩, if_pos (.inl ⟨h2.1.symm, h2.2.symm⟩)]
    · rw [if_neg (fun h' => h2 ⟨h'.1, h'.2.1⟩), if_neg]
      rintro (h' | h')
      · exact h2 ⟨h'.1.symm, h'.2.symm⟩
      · exact h1 ⟨h'.1.symm, h'.2.symm⟩
theorem length_cut (t : Tb) (e c : Nat) : (cutT t e c).length = t.length := by simp [cutT, length_set2]
theorem rowlen_cut (t : Tb) (e c k : Nat) : ((cutT t e c).row k).length = (t.row k).length := by simp [cutT, rowlen_set2]
theorem Inv.cut (h : Inv g s) {e c : Nat} (he : e < s.t.length) (hc : c < 2 * g) (hd : 0 ≤ s.t.at e c) : Inv g { s with t := cutT s.t e c } := by
  have hdn : (s.t.at e c).toNat < s.t.length := by have := h.bd e he c hc; omega
  have hbk := h.back e he c hc hd
  refine ⟨fun r hr => ?_, fun r hr k hk => ?_, ?_, fun x hx => h.rle x (by simpa [length_cut] using hx), fun x hx => h.rid x (by simpa [length_cut] using hx), fun r hr k hk h0 => ?_⟩
  · rw [rowlen_cut]; exact h.len r (by simpa [length_cut] using hr)
  · simp only [length_cut] at hr ⊢
    rw [at_cut h he hc hd]
    have := h.bd r hr k hk
    split
    · omega
    · exact this
  · simp only [length_cut]; exact h.rl
  · simp only [length_cut] at hr
    simp only at h0 ⊢
    rw [at_cut h he hc hd r k] at h0 ⊢
    by_cases hx : (r = e ∧ k = c) ∨ (r = (s.t.at e c).toNat ∧ k = flp c)
    · rw [if_pos hx] at h0; omega
    · rw [if_neg hx] at h0 ⊢
      rw [at_cut h he hc hd, if_neg]
      · exact h.back r hr k hk h0
      · have hb := h.back r hr k hk h0
        rintro (⟨h1, h2⟩ | ⟨h1, h2⟩)
        · rw [h1, h2] at hb
          exact hx (.inr ⟨by omega, by rw [← h2, flp_flp]⟩)
        · have hkc : k = c := by rw [← flp_flp k, h2, flp_flp]
          rw [h1, h2, hbk] at hb
          exact hx (.inl ⟨by omega, hkc⟩)
theorem at_join (h : Inv g s) {u v c : Nat} (hu : u < s.t.length) (hv : v < s.t.length) (hc : c < 2 * g) (k j : Nat) :
    (joinT s.t u c v).at k j = if k = v ∧ j = flp c then (u : Int) else if k = u ∧ j = c then (v : Int) else s.t.at k j := by
  have hf := flp_lt2 hc
  unfold joinT
  rw [at_set2, at_set2, length_set2, rowlen_set2, h.len _ hu, h.len _ hv]
  by_cases h1 : k = v ∧ j = flp c
  · rw [if_pos ⟨h1.1.symm, h1.2.symm, hv, hf⟩, if_pos h1]
  · rw [if_neg (fun h' => h1 ⟨h'.1.symm, h'.2.1.symm⟩), if_neg h1]
    by_cases h2 : k = u ∧ j = c
    · rw [if_pos ⟨h2.1.symm, h2.2.symm, hu, hc⟩, if_pos h2]
    · rw [if_neg (fun h' => h2 ⟨h'.1.symm, h'.2.1.symm⟩), if_neg h2]
theorem length_join (t : Tb) (u c v : Nat) : (joinT t u c v).length = t.length := by simp [joinT, length_set2]
end
end Go.Proofs.Ct
namespace Go.Proofs.Ct
theorem countP_flip {M : Nat} {p p' : Nat → Bool} (hM : p M = false) (hM' : p' M = true) (hx : ∀ x, x ≠ M → p' x = p x) : ∀ n, M < n → (List.range n).countP p' = (List.range n).countP p + 1
  | 0, h => absurd h (Nat.not_lt_zero _)
  | n + 1, h => by
    rw [List.range_succ, List.countP_append, List.countP_append]
    by_cases e : n = M
    · subst e
      have : (List.range n).countP p' = (List.range n).countP p := List.countP_congr fun x hx' => by
        rw [hx x (by simp at hx'; omega)]
      simp [this, hM, hM']
    · rw [countP_flip hM hM' hx n (by omega)]
      simp [hx n e]
      omega
/-- how many cosets are dead -/
def dc (s : St) : Nat := (List.range s.t.length).countP fun x => decide (s.rp x ≠ x)
/-- the dead with elements wait in the queue, from k (and there from the column c0) on -/
structure QI (g k c0 : Nat) (s : St) : Prop where
  dead : ∀ x, x < s.t.length → s.rp x ≠ x → ∀ c, c < 2 * g → 0 ≤ s.t.at x c → ∃ j, j < s.q.length ∧ s.q.getD j 0 = x ∧ (k < j ∨ (k = j ∧ c0 ≤ c))
  qd : ∀ j, j < s.q.length → s.q.getD j 0 < s.t.length ∧ s.rp (s.q.getD j 0) ≠ s.q.getD j 0
  cnt : s.q.length ≤ dc s
  lv : s.live + (dc s : Int) = s.t.length
/-- the dead are empty -/
structure Rest (g : Nat) (s : St) : Prop where
  inv : Inv g s
  dead : ∀ x, x < s.t.length → s.rp x ≠ x → ∀ c, c < 2 * g → s.t.at x c < 0
  lv : s.live + (dc s : Int) = s.t.length
section
variable {g : Nat} {s : St}
theorem merge_dead (h : Inv g s) {a b : Nat} (ha : a < s.t.length) (hb : b < s.t.length) (hne : s.rp a ≠ s.rp b) :
    max (s.rp a) (s.rp b) < s.t.length ∧ s.rp (max (s.rp a) (s.rp b)) = max (s.rp a) (s.rp b) ∧ (mergeS s a b).rp (max (s.rp a) (s.rp b)) ≠ max (s.rp a) (s.rp b) ∧ (∀ x, x < s.t.length → x ≠ max (s.rp a) (s.rp b) → ((mergeS s a b).rp x = x ↔ s.rp x = x)) ∧ (mergeS s a b).q = s.q ++ [max (s.rp a) (s.rp b)] ∧ (mergeS s a b).live = s.live - 1 ∧ dc (mergeS s a b) = dc s + 1 := by
  have hra := h.rid a ha
  have hrb := h.rid b hb
  have hla := h.rlt ha
  have hlb := h.rlt hb
  have hM : s.rp (max (s.rp a) (s.rp b)) = max (s.rp a) (s.rp b) := by
    rcases Nat.le_total (s.rp a) (s.rp b) with h' | h'
    · rw [Nat.max_eq_right h']; exact hrb
    · rw [Nat.max_eq_left h']; exact hra
  have hMl : max (s.rp a) (s.rp b) < s.t.length := by omega
  have h3 : (mergeS s a b).rp (max (s.rp a) (s.rp b)) ≠ max (s.rp a) (s.rp b) := by
    rw [rp_merge h ha hb hMl, hM, if_pos rfl]
    omega
  have h4 : ∀ x, x < s.t.length → x ≠ max (s.rp a) (s.rp b) → ((mergeS s a b).rp x = x ↔ s.rp x = x) := fun x hx hxM => by
    rw [rp_merge h ha hb hx]
    have hle := h.rle x hx
    split
    · rename_i e
      constructor
      · intro h'; omega
      · intro h'; omega
    · rfl
  refine ⟨hMl, hM, h3, h4, by unfold mergeS; rw [if_neg hne], by unfold mergeS; rw [if_neg hne], ?_⟩
  unfold dc
  rw [t_merge]
  have hcg : (List.range s.t.length).countP (fun x => decide ((mergeS s a b).rp x ≠ x)) = (List.range s.t.length).countP (fun x => if x = max (s.rp a) (s.rp b) then true else decide (s.rp x ≠ x)) := List.countP_congr fun x hx => by
    have hx' : x < s.t.length := by simpa using hx
    by_cases e : x = max (s.rp a) (s.rp b)
    · rw [if_pos e, e]; simp only [decide_eq_true_eq]; exact ⟨fun _ => trivial, fun _ => h3⟩
    · rw [if_neg e]; simp only [decide_eq_true_eq]; exact not_congr (h4 x hx' e)
  rw [hcg]
  refine countP_flip (M := max (s.rp a) (s.rp b)) (by simpa using hM) (by simp) (fun x hx => by rw [if_neg hx]) _ hMl
theorem QI.merge (h : Inv g s) {k c0 : Nat} (hq : QI g k c0 s) (hk : k < s.q.length ∨ (k = s.q.length ∧ c0 = 0)) {a b : Nat} (ha : a < s.t.length) (hb : b < s.t.length) : QI g k c0 (mergeS s a b) := by
  by_cases hne : s.rp a = s.rp b
  · unfold mergeS; rw [if_pos hne]; exact hq
  · obtain ⟨m1, m2, m3, m4, m5, m6, m7⟩ := merge_dead h ha hb hne
    have ht := t_merge s a b
    have hl : (mergeS s a b).q.length = s.q.length + 1 := by rw [m5]; simp
    have hold : ∀ j, j < s.q.length → (mergeS s a b).q.getD j 0 = s.q.getD j 0 := fun j hj => by rw [m5]; simp [List.getD_eq_getElem?_getD, List.getElem?_append_left hj]
    have hnew : (mergeS s a b).q.getD s.q.length 0 = max (s.rp a) (s.rp b) := by rw [m5]; simp [List.getD_eq_getElem?_getD]
    refine ⟨fun x hx hd c hc h0 => ?_, fun j hj => ?_, by rw [hl, m7]; have := hq.cnt; omega, by rw [m6, m7, ht]; have := hq.lv; omega⟩
    · rw [ht] at hx h0
      by_cases e : x = max (s.rp a) (s.rp b)
      · exact ⟨s.q.length, by omega, by rw [hnew, e], by rcases hk with hk | ⟨hk, h0'⟩ <;> omega⟩
      · obtain ⟨j, h1, h2, h3⟩ := hq.dead x hx (fun h' => hd ((m4 x hx e).2 h')) c hc h0
        exact ⟨j, by omega, by rw [hold j h1]; exact h2, h3⟩
    · rw [ht]
      rcases Nat.lt_or_ge j s.q.length with h1 | h1
      · rw [hold j h1]
        obtain ⟨h2, h3⟩ := hq.qd j h1
        refine ⟨h2, fun h' => ?_⟩
        by_cases e : s.q.getD j 0 = max (s.rp a) (s.rp b)
        · rw [e] at h3; exact h3 m2
        · exact h3 ((m4 _ h2 e).1 h')
      · obtain rfl : j = s.q.length := by omega
        rw [hnew]
        exact ⟨m1, m3⟩
end
end Go.Proofs.Ct
namespace Go.Proofs.Ct
/-- s extends s0 (both at rest): classes grow, every edge stays, at the representatives -/
structure Ext (g : Nat) (s0 s : St) : Prop where
  n : s0.t.length ≤ s.t.length
  coarse : ∀ x, x < s0.t.length → s.rp (s0.rp x) = s.rp x
  edge : ∀ x c y, x < s0.t.length → c < 2 * g → Edge s0.t x c y → Edge s.t (s.rp x) c (s.rp y)
section
variable {g : Nat} {s s0 s1 s2 : St}
/-- an edge runs between the living -/
theorem Rest.live (h : Rest g s) {x c y : Nat} (hx : x < s.t.length) (hc : c < 2 * g) (he : Edge s.t x c y) : s.rp x = x ∧ s.rp y = y ∧ y < s.t.length := by
  have hy := he.lt h.inv hx hc
  have hb := he.back h.inv hx hc
  refine ⟨Decidable.byContradiction fun hn => ?_, Decidable.byContradiction fun hn => ?_, hy⟩
  · have := h.dead x hx hn c hc
    unfold Edge at he
    omega
  · have := h.dead y hy hn (flp c) (flp_lt2 hc)
    unfold Edge at hb
    omega
theorem Ext.refl (h : Rest g s) : Ext g s s := ⟨Nat.le_refl _, fun x hx => h.inv.rid x hx, fun x c y hx hc he => by
  obtain ⟨h1, h2, -⟩ := h.live hx hc he
  rw [h1, h2]
  exact he⟩
theorem Ext.trans (h0 : Rest g s0) (h1 : Rest g s1) (a : Ext g s0 s1) (b : Ext g s1 s2) : Ext g s0 s2 := by
  have hr : ∀ x, x < s0.t.length → s1.rp x < s1.t.length := fun x hx => h1.inv.rlt (Nat.lt_of_lt_of_le hx a.n)
  have hb : ∀ x, x < s0.t.length → s2.rp (s1.rp x) = s2.rp x := fun x hx => b.coarse x (Nat.lt_of_lt_of_le hx a.n)
  refine ⟨Nat.le_trans a.n b.n, fun x hx => ?_, fun x c y hx hc he => ?_⟩
  · rw [← hb _ (h0.inv.rlt hx), a.coarse x hx, hb x hx]
  · have hy := he.lt h0.inv hx hc
    have := b.edge _ c _ (hr x hx) hc (a.edge x c y hx hc he)
    rwa [hb x hx, hb y hy] at this
/-- a coset more -/
def addS (m : Nat) (s : St) : St := { t := s.t ++ [List.replicate m (-1)], rep := s.rep ++ [s.t.length], q := s.q, live := s.live + 1, most := max s.most (s.live + 1) }
theorem row_add_old (m : Nat) {x : Nat} (hx : x < s.t.length) : (addS m s).t.row x = s.t.row x := by
  unfold addS Tb.row
  simp [List.getD_eq_getElem?_getD, List.getElem?_append_left hx]
theorem row_add_new (m : Nat) : (addS m s).t.row s.t.length = List.replicate m (-1) := by
  unfold addS Tb.row
  simp [List.getD_eq_getElem?_getD]
theorem at_add_old (m : Nat) {x : Nat} (hx : x < s.t.length) (c : Nat) : (addS m s).t.at x c = s.t.at x c := by unfold Tb.at; rw [row_add_old m hx]
theorem at_add_new (m c : Nat) (hc : c < m) : (addS m s).t.at s.t.length c = -1 := by unfold Tb.at; rw [row_add_new]; simp [List.getD_eq_getElem?_getD, hc]
theorem length_add (m : Nat) : (addS m s).t.length = s.t.length + 1 := by simp [addS]
theorem rp_add_old (h : Inv g s) (m : Nat) {x : Nat} (hx : x < s.t.length) : (addS m s).rp x = s.rp x := by
  unfold addS St.rp
  simp [List.getD_eq_getElem?_getD, List.getElem?_append_left (by rw [h.rl]; exact hx : x < s.rep.length)]
theorem rp_add_new (h : Inv g s) (m : Nat) : (addS m s).rp s.t.length = s.t.length := by
  unfold addS St.rp
  simp [List.getD_eq_getElem?_getD, ← h.rl]
theorem Inv.add (h : Inv g s) : Inv g (addS (2 * g) s) := by
  refine ⟨fun r hr => ?_, fun r hr c hc => ?_, ?_, fun x hx => ?_, fun x hx => ?_, fun r hr c hc h0 => ?_⟩
  all_goals first | rw [length_add] at hr | rw [length_add] at hx | skip
  · rcases Nat.lt_or_ge r s.t.length with h1 | h1
    · rw [row_add_old _ h1]; exact h.len r h1
    · obtain rfl : r = s.t.length := by omega
      rw [row_add_new]; simp
  · rw [length_add]
    rcases Nat.lt_or_ge r s.t.length with h1 | h1
    · rw [at_add_old _ h1]; have := h.bd r h1 c hc; omega
    · obtain rfl : r = s.t.length := by omega
      rw [at_add_new _ _ hc]; omega
  · rw [length_add]; simp [addS, h.rl]
  · rcases Nat.lt_or_ge x s.t.length with h1 | h1
    · rw [rp_add_old h _ h1]; exact h.rle x h1
    · obtain rfl : x = s.t.length := by omega
      rw [rp_add_new h]; exact Nat.le_refl _
  · rcases Nat.lt_or_ge x s.t.length with h1 | h1
    · rw [rp_add_old h _ h1, rp_add_old h _ (h.rlt h1)]; exact h.rid x h1
    · obtain rfl : x = s.t.length := by omega
      rw [rp_add_new h, rp_add_new h]
  · rcases Nat.lt_or_ge r s.t.length with h1 | h1
    · rw [at_add_old _ h1] at h0 ⊢
      have := (h.bd r h1 c hc).2
      rw [at_add_old _ (by omega)]
      exact h.back r h1 c hc h0
    · obtain rfl : r = s.t.length := by omega
      rw [at_add_new _ _ hc] at h0
      omega
theorem dc_add (h : Inv g s) (m : Nat) : dc (addS m s) = dc s := by
  unfold dc
  rw [length_add, List.range_succ, List.countP_append]
  have h1 : (List.range s.t.length).countP (fun x => decide ((addS m s).rp x ≠ x)) = (List.range s.t.length).countP (fun x => decide (s.rp x ≠ x)) := List.countP_congr fun x hx => by
    rw [rp_add_old h m (by simpa using hx)]
  rw [h1]
  simp [rp_add_new h m]
theorem Rest.add (h : Rest g s) : Rest g (addS (2 * g) s) := by
  refine ⟨h.inv.add, fun x hx hd c hc => ?_, ?_⟩
  · rw [length_add] at hx
    rcases Nat.lt_or_ge x s.t.length with h1 | h1
    · rw [at_add_old _ h1]
      rw [rp_add_old h.inv _ h1] at hd
      exact h.dead x h1 hd c hc
    · obtain rfl : x = s.t.length := by omega
      rw [rp_add_new h.inv] at hd
      exact absurd rfl hd
  · rw [dc_add h.inv, length_add]
    have := h.lv
    show s.live + 1 + _ = _
    omega
theorem Ext.add (h : Rest g s) : Ext g s (addS (2 * g) s) := ⟨by rw [length_add]; omega, fun x hx => by rw [rp_add_old h.inv _ hx, rp_add_old h.inv _ (h.inv.rlt hx), h.inv.rid x hx], fun x c y hx hc he => by
  obtain ⟨h1, h2, h3⟩ := h.live hx hc he
  rw [rp_add_old h.inv _ hx, rp_add_old h.inv _ h3, h1, h2]
  unfold Edge
  rw [at_add_old _ hx]
  exact he⟩
end
section
variable {g : Nat} {s : St}
def LOk (g : Nat) (w : W) : Prop := ∀ x ∈ w, -(g : Int) ≤ x ∧ x ≤ g ∧ x ≠ 0
theorem LOk.inv {w : W} (h : LOk g w) : LOk g (inv w) := fun x hx => by
  have := h _ (mem_inv hx)
  omega
theorem LOk.getD {w : W} (h : LOk g w) {k : Nat} (hk : k < w.length) : -(g : Int) ≤ w.getD k 0 ∧ w.getD k 0 ≤ g ∧ w.getD k 0 ≠ 0 := by
  rw [List.getD_eq_getElem?_getD, List.getElem?_eq_getElem hk]
  exact h _ (List.getElem_mem hk)
theorem LOk.col {w : W} (h : LOk g w) {k : Nat} (hk : k < w.length) : col (w.getD k 0) < 2 * g := by
  have := h.getD hk
  unfold Ct.col
  split <;> omega
theorem col_inv {x : Int} (h : x ≠ 0) : col (-x) = flp (col x) := by
  unfold col flp
  split <;> split <;> split <;> omega
end
end Go.Proofs.Ct
namespace Go.Proofs.Ct
inductive Reach (g : Nat) (t : Tb) : Nat → Nat → Prop where
  | refl (x : Nat) : Reach g t x x
  | step {x y z c : Nat} : Reach g t x y → c < 2 * g → Edge t y c z → Reach g t x z
section
variable {g lim : Nat} {s s0 s1 : St}
theorem Reach.ext (h0 : Rest g s0) (h : Ext g s0 s1) {x : Nat} (hx : x < s0.t.length) : ∀ {y : Nat}, Reach g s0.t x y → y < s0.t.length ∧ Reach g s1.t (s1.rp x) (s1.rp y) := by
  intro y hr
  induction hr with
  | refl => exact ⟨hx, .refl _⟩
  | step _ hc he ih =>
    obtain ⟨h1, h2⟩ := ih
    exact ⟨he.lt h0.inv h1 hc, .step h2 hc (h.edge _ _ _ h1 hc he)⟩
theorem LOk.nil : LOk g [] := fun x hx => by cases hx
/-- the cosets below k are complete -/
def Comp (g : Nat) (s : St) (k : Nat) : Prop := ∀ x, x < k → x < s.t.length → ∀ c, c < 2 * g → 0 ≤ s.t.at (s.rp x) c
theorem Comp.ext (h0 : Rest g s0) (h : Ext g s0 s1) {k : Nat} (hk : k ≤ s0.t.length) (hc : Comp g s0 k) : Comp g s1 k := fun x hx _ c hcc => by
  have hx0 : x < s0.t.length := by omega
  obtain ⟨y, hy⟩ := Int.eq_ofNat_of_zero_le (hc x hx hx0 c hcc)
  have := h.edge (s0.rp x) c y (h0.inv.rlt hx0) hcc hy
  rw [h.coarse x hx0] at this
  unfold Edge at this
  omega
end
end Go.Proofs.Ct
namespace Go.Proofs.Ct
/-- a word leads from x to y -/
def Way (t : Tb) : Nat → W → Nat → Prop
  | x, [], y => x = y
  | x, l :: w, y => ∃ z, Edge t x (col l) z ∧ Way t z w y
section
variable {t : Tb} {g : Nat} {s s0 s1 : St}
theorem way_app {u v : W} : ∀ {x y : Nat}, Way t x (u ++ v) y ↔ ∃ z, Way t x u z ∧ Way t z v y := by
  induction u with
  | nil => intro x y; exact ⟨fun h => ⟨x, rfl, h⟩, fun ⟨z, h1, h2⟩ => by have e : x = z := h1; subst e; exact h2⟩
  | cons l u ih =>
    intro x y
    constructor
    · rintro ⟨z, h1, h2⟩
      obtain ⟨z', h3, h4⟩ := ih.1 h2
      exact ⟨z', ⟨z, h1, h3⟩, h4⟩
    · rintro ⟨z', ⟨z, h1, h3⟩, h4⟩
      exact ⟨z, h1, ih.2 ⟨z', h3, h4⟩⟩
theorem way_one {x y : Nat} {l : Int} : Way t x [l] y ↔ Edge t x (col l) y := ⟨fun ⟨z, h1, h2⟩ => by have e : z = y := h2; subst e; exact h1, fun h => ⟨y, h, rfl⟩⟩
theorem take_snocW {w : W} {k : Nat} (h : k < w.length) : w.take (k + 1) = w.take k ++ [w.getD k 0] := by
  rw [List.take_add_one, List.getD_eq_getElem?_getD, List.getElem?_eq_getElem h]; rfl
theorem way_of_lead {r : Nat} {w : W} : ∀ (k : Nat), k ≤ w.length → 0 ≤ leadTo t r w k → Way t r (w.take k) (leadTo t r w k).toNat
  | 0, _, _ => by
    rw [List.take_zero]
    show r = ((r : Int)).toNat
    omega
  | k + 1, hk, h => by
    rw [leadTo_succ] at h ⊢
    by_cases h1 : leadTo t r w k < 0
    · rw [if_pos h1] at h; omega
    · rw [if_neg h1] at h ⊢
      have ih := way_of_lead (r := r) (w := w) k (by omega) (by omega)
      rw [take_snocW (by omega)]
      refine way_app.2 ⟨_, ih, way_one.2 ?_⟩
      unfold Edge
      omega
theorem lead_of_way {r : Nat} {w : W} : ∀ (k : Nat), k ≤ w.length → ∀ {y : Nat}, Way t r (w.take k) y → leadTo t r w k = (y : Int)
  | 0, _, y, h => by
    rw [List.take_zero] at h
    have e : r = y := h
    subst e; rfl
  | k + 1, hk, y, h => by
    rw [take_snocW (by omega)] at h
    obtain ⟨z, h1, h2⟩ := way_app.1 h
    have ih := lead_of_way k (by omega) h1
    rw [leadTo_succ, ih, if_neg (by omega), Int.toNat_natCast]
    exact way_one.1 h2
theorem leads_iff {r y : Nat} {w : W} : leads t r w = (y : Int) ↔ Way t r w y := by
  constructor
  · intro h
    have := way_of_lead (t := t) (r := r) w.length (Nat.le_refl _) (by show 0 ≤ leads t r w; omega)
    rw [List.take_length] at this
    have e : (leadTo t r w w.length).toNat = y := by show (leads t r w).toNat = y; omega
    rwa [e] at this
  · intro h
    exact lead_of_way w.length (Nat.le_refl _) (by rw [List.take_length]; exact h)
theorem LOk.cons {l : Int} {w : W} (h : LOk g (l :: w)) : (-(g : Int) ≤ l ∧ l ≤ g ∧ l ≠ 0) ∧ LOk g w := ⟨h l (List.mem_cons_self ..), fun x hx => h x (List.mem_cons_of_mem _ hx)⟩
theorem col_ltL {l : Int} (h : -(g : Int) ≤ l ∧ l ≤ g ∧ l ≠ 0) : col l < 2 * g := by unfold col; split <;> omega
theorem inv_cons (l : Int) (w : W) : inv (l :: w) = inv w ++ [-l] := by simp [inv]
theorem inv_inv (w : W) : inv (inv w) = w := by simp [inv, Function.comp_def]
theorem way_ext (h0 : Inv g s0) (h : Ext g s0 s1) : ∀ {w : W} {x y : Nat}, LOk g w → x < s0.t.length → Way s0.t x w y → Way s1.t (s1.rp x) w (s1.rp y) := by
  intro w
  induction w with
  | nil => intro x y _ _ h; have e : x = y := h; subst e; exact rfl
  | cons l w ih =>
    rintro x y hw hx ⟨z, h1, h2⟩
    have hz := h1.lt h0 hx (col_ltL hw.cons.1)
    exact ⟨_, h.edge _ _ _ hx (col_ltL hw.cons.1) h1, ih hw.cons.2 hz h2⟩
/-- a word is closed at a coset -/
def Clo (s : St) (r : Nat) (w : W) : Prop := Way s.t (s.rp r) w (s.rp r)
theorem Clo.ext (h0 : Rest g s0) (h : Ext g s0 s1) {r : Nat} (hr : r < s0.t.length) {w : W} (hw : LOk g w) (hc : Clo s0 r w) : Clo s1 r w := by
  have := way_ext h0.inv h hw (h0.inv.rlt hr) hc
  rwa [h.coarse r hr] at this
end
end Go.Proofs.Ct
namespace Go.Proofs.Ct
def livTo (s : St) (n : Nat) : List Nat := (List.range n).filter fun x => decide (s.rp x = x)
def liv (s : St) : List Nat := livTo s s.t.length
/-- the number of a live coset: how many live before it -/
def num (s : St) (x : Nat) : Nat := (livTo s x).length
def tabS (s : St) : Tb := (liv s).map fun x => (s.t.row x).map fun v => (num s v.toNat : Int)
theorem row_tab {s : St} {i : Nat} (h : i < (liv s).length) : (tabS s).row i = (s.t.row ((liv s).getD i 0)).map fun v => (num s v.toNat : Int) := by
  unfold tabS Tb.row
  simp [List.getD_eq_getElem?_getD, h]
theorem ge_of_all : ∀ (n : Nat) (l : List Int), (∀ r : Nat, r < n → (r : Int) ∈ l) → n ≤ l.length
  | 0, _, _ => Nat.zero_le _
  | n + 1, l, h => by
    have hm := h n (by omega)
    have := ge_of_all n (l.erase n) fun r hr => (List.mem_erase_of_ne (by omega : (r : Int) ≠ (n : Int))).2 (h r (by omega))
    rw [List.length_erase_of_mem hm] at this
    have h1 : 0 < l.length := List.length_pos_of_mem hm
    omega
section
variable {g lim : Nat} {s : St}
end
end Go.Proofs.Ct
namespace Go.Proofs.Ct
section
variable {g lim : Nat} {s s0 s1 : St} {rels sub : List W}
/-- the relators are closed at the cosets below k -/
def RC (rels : List W) (s : St) (k : Nat) : Prop := ∀ x, x < k → x < s.t.length → ∀ i, i < rels.length → Clo s x (rels.getD i [])
theorem RC.ext (h0 : Rest g s0) (h : Ext g s0 s1) (hr : ∀ j, j < rels.length → LOk g (rels.getD j [])) {k : Nat} (hk : k ≤ s0.t.length) (hc : RC rels s0 k) : RC rels s1 k := fun x hx _ i hi =>
  (hc x hx (by omega) i hi).ext h0 h (by omega) (hr i hi)
end
end Go.Proofs.Ct
namespace Go.Proofs.Ct
/-- complete, closed, all reached from 0 -/
structure Full (g : Nat) (t : Tb) : Prop where
  good : TGood g t
  pos : ∀ r, r < t.length → ∀ c, c < 2 * g → 0 ≤ t.at r c
  conn : ∀ x, x < t.length → Reach g t 0 x
/-- a map of tables -/
structure Hm (g : Nat) (t u : Tb) (φ : Nat → Nat) : Prop where
  lt : ∀ x, x < t.length → φ x < u.length
  edge : ∀ x c y, x < t.length → c < 2 * g → Edge t x c y → Edge u (φ x) c (φ y)
section
variable {g : Nat} {t u : Tb} {φ : Nat → Nat}
theorem Full.edge (h : Full g t) {x c : Nat} (hx : x < t.length) (hc : c < 2 * g) : ∃ y, y < t.length ∧ Edge t x c y := by
  have h1 := h.good.bd x hx c hc
  have h2 := h.pos x hx c hc
  exact ⟨(t.at x c).toNat, by omega, by unfold Edge; omega⟩
theorem TGood.elt (h : TGood g t) {x c y : Nat} (hx : x < t.length) (hc : c < 2 * g) (he : Edge t x c y) : y < t.length := by
  have h1 := h.bd x hx c hc
  unfold Edge at he
  omega
theorem TGood.eback (h : TGood g t) {x c y : Nat} (hx : x < t.length) (hc : c < 2 * g) (he : Edge t x c y) : Edge t y (flp c) x := by
  unfold Edge at he ⊢
  have h1 := h.back x hx c hc (by omega)
  rw [he, Int.toNat_natCast] at h1
  exact h1
theorem Hm.way (h : Hm g t u φ) (ht : TGood g t) : ∀ {w : W} {x y : Nat}, LOk g w → x < t.length → Way t x w y → Way u (φ x) w (φ y) := by
  intro w
  induction w with
  | nil => intro x y _ _ e; have e : x = y := e; rw [e]; exact rfl
  | cons l w ih =>
    rintro x y hw hx ⟨z, h1, h2⟩
    exact ⟨_, h.edge _ _ _ hx (col_ltL hw.cons.1) h1, ih hw.cons.2 (ht.elt hx (col_ltL hw.cons.1) h1) h2⟩
theorem row_ext {a b : List Int} {n : Nat} (ha : a.length = n) (hb : b.length = n) (h : ∀ c, c < n → a.getD c 0 = b.getD c 0) : a = b := by
  apply List.ext_getElem
  · omega
  · intro i h1 h2
    have := h i (by omega)
    simpa [List.getD_eq_getElem?_getD, h1, h2] using this
def mp (φ : Nat → Nat) (x : Int) : Int := ((φ x.toNat : Nat) : Int)
theorem Hm.row (h : Hm g t u φ) (ht : TGood g t) (hu : TGood g u) (hp : ∀ r, r < t.length → ∀ c, c < 2 * g → 0 ≤ t.at r c) {r : Nat} (hr : r < t.length) : u.row (φ r) = (t.row r).map (mp φ) := by
  refine row_ext (n := 2 * g) (hu.len _ (h.lt r hr)) (by rw [List.length_map]; exact ht.len r hr) fun c hc => ?_
  have h1 := hp r hr c hc
  have h2 := h.edge r c (t.at r c).toNat hr hc (by unfold Edge; omega)
  have h3 : (u.row (φ r)).getD c 0 = ((φ (t.at r c).toNat : Nat) : Int) := h2
  have h4 : c < (t.row r).length := by rw [ht.len r hr]; exact hc
  have h5 : ∀ (l : List Int) (f : Int → Int), c < l.length → f (l.getD c 0) = (l.map f).getD c 0 := fun l f hl => by
    simp [List.getD_eq_getElem?_getD, hl]
  rw [h3, ← h5 (t.row r) (mp φ) h4]
  rfl
/-- a full table's order, number by number -/
structure Num (t : Tb) (o : List Int) : Prop where
  len : o.length = t.length
  cos : Cos t.length o
theorem idxOf_get {o : List Int} (hn : o.Nodup) {j : Nat} (hj : j < o.length) : o.idxOf (o.getD j 0) = j := by
  rw [List.getD_eq_getElem?_getD, List.getElem?_eq_getElem hj]
  exact hn.idxOf_getElem j hj
theorem Num.at_ {o : List Int} (h : Num t o) {j : Nat} (hj : j < t.length) : ∃ x, x < t.length ∧ o.getD j 0 = (x : Int) ∧ o.idxOf (x : Int) = j := by
  have h1 := h.cos.get (k := j) (by rw [h.len]; exact hj)
  refine ⟨(o.getD j 0).toNat, by omega, by omega, ?_⟩
  rw [show (((o.getD j 0).toNat : Nat) : Int) = o.getD j 0 by omega]
  exact idxOf_get h.cos.nd (by rw [h.len]; exact hj)
theorem Full.num (h : Full g t) {b : Nat} (hb : b < t.length) (hr : ∀ x, x < t.length → Reach g t b x) : Num t (ord t (b : Int)) := by
  have hC : Cos t.length (ord t (b : Int)) := Cos.ordTo h.good (by omega) (by omega) t.length
  refine ⟨?_, hC⟩
  refine Nat.le_antisymm (length_le_of_nodup hC) (ge_of_all _ _ fun r hr' => ?_)
  have hin : ∀ x, Reach g t b x → x < t.length ∧ (x : Int) ∈ ord t (b : Int) := fun x hx => by
    induction hx with
    | refl => exact ⟨hb, (ordTo_mono t (b : Int) (Nat.zero_le t.length)).subset (by simp [ordTo])⟩
    | @step y z c _ hc he ih =>
      obtain ⟨h1, h2⟩ := ih
      exact ⟨h.good.elt h1 hc he, by
        obtain ⟨j, hj, he'⟩ := List.mem_iff_getElem.1 h2
        have hle := length_le_of_nodup hC
        have hjl : j < t.length := Nat.lt_of_lt_of_le hj hle
        have hlt : j < (ordTo t (b : Int) j).length := by
          rcases Nat.lt_or_ge j (ordTo t (b : Int) j).length with h3 | h3
          · exact h3
          · have := ordTo_stable t (b : Int) h3 (by omega : j ≤ t.length)
            unfold ord at hj
            rw [this] at hj
            omega
        have hget : (ordTo t (b : Int) j).getD j 0 = (y : Int) := by
          rw [← pre_get (ordTo_mono t (b : Int) (by omega : j ≤ t.length)) hlt]
          unfold ord at he' hj
          rw [List.getD_eq_getElem?_getD, List.getElem?_eq_getElem hj]
          simpa using he'
        have hstep : ordTo t (b : Int) (j + 1) = visitTo (t.row y) (t.row y).length (ordTo t (b : Int) j) := by
          rw [ordTo, if_pos hlt, hget, Int.toNat_natCast]
        have hp := h.pos y h1 c hc
        have hmem : t.at y c ∈ ordTo t (b : Int) (j + 1) := by
          rw [hstep]
          exact mem_visitTo (by rw [h.good.len y h1]; exact hc) hp _
        have := (ordTo_mono t (b : Int) (by omega : j + 1 ≤ t.length)).subset hmem
        rwa [show t.at y c = (z : Int) from he] at this⟩
  exact (hin r (hr r hr')).2
theorem Reach.hm (h : Hm g t u φ) (ht : TGood g t) {x y : Nat} (hx : x < t.length) (hr : Reach g t x y) : y < t.length ∧ Reach g u (φ x) (φ y) := by
  induction hr with
  | refl => exact ⟨hx, .refl _⟩
  | step _ hc he ih =>
    obtain ⟨h1, h2⟩ := ih
    exact ⟨ht.elt h1 hc he, .step h2 hc (h.edge _ _ _ h1 hc he)⟩
theorem Reach.trans {x y z : Nat} (h1 : Reach g t x y) (h2 : Reach g t y z) : Reach g t x z := by
  induction h2 with
  | refl => exact h1
  | step _ hc he ih => exact .step ih hc he
theorem Reach.symm (ht : TGood g t) {x y : Nat} (hx : x < t.length) (h : Reach g t x y) : y < t.length ∧ Reach g t y x := by
  induction h with
  | refl => exact ⟨hx, .refl _⟩
  | step _ hc he ih =>
    obtain ⟨h1, h2⟩ := ih
    exact ⟨ht.elt h1 hc he, (Reach.step (.refl _) (flp_lt2 hc) (ht.eback h1 hc he)).trans h2⟩
end
end Go.Proofs.Ct
namespace Go.Proofs.Ct
def actW {α : Type} (act : α → Nat → α) : α → W → α
  | p, [] => p
  | p, l :: w => actW act (act p (col l)) w
/-- points on which letters act, in which the relators are closed -/
structure Mdl (g : Nat) (rels : List W) {α : Type} (D : α → Prop) (act : α → Nat → α) : Prop where
  cl : ∀ p c, D p → c < 2 * g → D (act p c)
  inv : ∀ p c, D p → c < 2 * g → act (act p c) (flp c) = p
  rel : ∀ p i, D p → i < rels.length → actW act p (rels.getD i []) = p
/-- a map of the cosets to the points -/
structure Mp (g : Nat) {α : Type} (D : α → Prop) (act : α → Nat → α) (s : St) (f : Nat → α) : Prop where
  dom : ∀ x, x < s.t.length → D (f x)
  rp : ∀ x, x < s.t.length → f (s.rp x) = f x
  edge : ∀ x c y, x < s.t.length → c < 2 * g → Edge s.t x c y → act (f x) c = f y
section
variable {α : Type} {g lim : Nat} {rels sub : List W} {D : α → Prop} {act : α → Nat → α} {s : St} {f : Nat → α}
theorem actW_app {u v : W} : ∀ {p : α}, actW act p (u ++ v) = actW act (actW act p u) v := by
  induction u with
  | nil => intro p; rfl
  | cons l u ih => intro p; exact ih
theorem Mdl.clW (h : Mdl g rels D act) : ∀ {w : W} {p : α}, LOk g w → D p → D (actW act p w) := by
  intro w
  induction w with
  | nil => intro p _ hp; exact hp
  | cons l w ih => intro p hw hp; exact ih hw.cons.2 (h.cl _ _ hp (col_ltL hw.cons.1))
theorem Mdl.invW (h : Mdl g rels D act) : ∀ {w : W} {p : α}, LOk g w → D p → actW act (actW act p w) (Ct.inv w) = p := by
  intro w
  induction w with
  | nil => intro p _ _; rfl
  | cons l w ih =>
    intro p hw hp
    have hc := col_ltL hw.cons.1
    rw [inv_cons, actW_app]
    show actW act (actW act (actW act (act p (col l)) w) (Ct.inv w)) [-l] = p
    rw [ih hw.cons.2 (h.cl _ _ hp hc)]
    show act (act p (col l)) (col (-l)) = p
    rw [col_inv hw.cons.1.2.2]
    exact h.inv p _ hp hc
theorem Mp.merge (h : Mp g D act s f) (hI : Inv g s) {a b : Nat} (ha : a < s.t.length) (hb : b < s.t.length) (e : f a = f b) : Mp g D act (mergeS s a b) f := by
  have ht := t_merge s a b
  refine ⟨by rw [ht]; exact h.dom, fun x hx => ?_, by rw [ht]; exact h.edge⟩
  rw [ht] at hx
  rw [rp_merge hI ha hb hx]
  have h1 := h.rp x hx
  have h2 := h.rp a ha
  have h3 := h.rp b hb
  split
  · rename_i e2
    rw [e2] at h1
    rcases Nat.le_total (s.rp a) (s.rp b) with h' | h'
    · rw [Nat.min_eq_left h']
      rw [Nat.max_eq_right h'] at h1
      rw [h2, e, ← h3, h1]
    · rw [Nat.min_eq_right h']
      rw [Nat.max_eq_left h'] at h1
      rw [h3, ← e, ← h2, h1]
  · exact h1
theorem Mp.step (_hM : Mdl g rels D act) (h : Mp g D act s f) (hI : Inv g s) {e c : Nat} (he : e < s.t.length) (hc : c < 2 * g) : Mp g D act (stepS e c s) f := by
  unfold stepS
  by_cases hd : s.t.at e c < 0
  · rw [if_pos hd]; exact h
  · rw [if_neg hd]
    have hd' : 0 ≤ s.t.at e c := by omega
    obtain ⟨d, hdd⟩ := Int.eq_ofNat_of_zero_le hd'
    have hE : Edge s.t e c d := hdd
    have hdn := hE.lt hI he hc
    have hcut := hI.cut he hc hd'
    have hat := at_cut hI he hc hd'
    have hlen := length_cut s.t e c
    have hun := hI.rlt he
    have hvn := hI.rlt hdn
    have hf := flp_lt2 hc
    rw [hdd, Int.toNat_natCast] at hat ⊢
    have hM1 : Mp g D act { s with t := cutT s.t e c } f := ⟨fun x hx => h.dom x (by simpa [hlen] using hx), fun x hx => h.rp x (by simpa [hlen] using hx), fun x k y hx hk hy => by
      simp only [hlen] at hx
      unfold Edge at hy
      simp only at hy
      rw [hat] at hy
      split at hy
      · omega
      · exact h.edge x k y hx hk hy⟩
    have hfe := h.edge e c d he hc hE
    have hfb := h.edge d (flp c) e hdn hf (hE.back hI he hc)
    have hre := h.rp e he
    have hrd := h.rp d hdn
    generalize hs1 : ({ s with t := cutT s.t e c } : St) = s1 at *
    have ht1 : s1.t = cutT s.t e c := by rw [← hs1]
    have hn1 : s1.t.length = s.t.length := by rw [ht1, hlen]
    rw [← ht1] at hat ⊢
    by_cases h1 : 0 ≤ s1.t.at (s.rp e) c
    · rw [if_pos h1]
      obtain ⟨w, hw⟩ := Int.eq_ofNat_of_zero_le h1
      have hE1 : Edge s1.t (s.rp e) c w := hw
      have hwn : w < s1.t.length := hE1.lt hcut (by rw [hn1]; exact hun) hc
      have h2 := hM1.edge _ c w (by rw [hn1]; exact hun) hc hE1
      rw [hw, Int.toNat_natCast]
      exact hM1.merge hcut hwn (by rw [hn1]; exact hvn) (by rw [← h2, hre, hfe, hrd])
    · rw [if_neg h1]
      by_cases h2 : 0 ≤ s1.t.at (s.rp d) (flp c)
      · rw [if_pos h2]
        obtain ⟨w, hw⟩ := Int.eq_ofNat_of_zero_le h2
        have hE1 : Edge s1.t (s.rp d) (flp c) w := hw
        have hwn : w < s1.t.length := hE1.lt hcut (by rw [hn1]; exact hvn) hf
        have h3 := hM1.edge _ (flp c) w (by rw [hn1]; exact hvn) hf hE1
        rw [hw, Int.toNat_natCast]
        exact hM1.merge hcut hwn (by rw [hn1]; exact hun) (by rw [← h3, hrd, hfb, hre])
      · rw [if_neg h2]
        have haj := at_join hcut (u := s.rp e) (v := s.rp d) (c := c) (by omega) (by omega) hc
        have hlj := length_join s1.t (s.rp e) c (s.rp d)
        refine ⟨fun x hx => h.dom x (by simp only [hlj] at hx; omega), fun x hx => h.rp x (by simp only [hlj] at hx; omega), fun x k y hx hk hy => ?_⟩
        simp only [hlj] at hx
        unfold Edge at hy
        simp only at hy
        rw [haj] at hy
        split at hy
        · rename_i e1
          have : y = s.rp e := by omega
          rw [this, e1.1, e1.2, hrd, hre]
          exact hfb
        · split at hy
          · rename_i e1
            have : y = s.rp d := by omega
            rw [this, e1.1, e1.2, hrd, hre]
            exact hfe
          · exact hM1.edge x k y hx hk hy
theorem Mp.way (h : Mp g D act s f) (hI : Inv g s) : ∀ {w : W} {x y : Nat}, LOk g w → x < s.t.length → Way s.t x w y → actW act (f x) w = f y := by
  intro w
  induction w with
  | nil => intro x y _ _ e; have e : x = y := e; rw [e]; rfl
  | cons l w ih =>
    rintro x y hw hx ⟨z, h1, h2⟩
    have hz := h1.lt hI hx (col_ltL hw.cons.1)
    show actW act (act (f x) (col l)) w = f y
    rw [h.edge _ _ _ hx (col_ltL hw.cons.1) h1]
    exact ih hw.cons.2 hz h2
end
end Go.Proofs.Ct
