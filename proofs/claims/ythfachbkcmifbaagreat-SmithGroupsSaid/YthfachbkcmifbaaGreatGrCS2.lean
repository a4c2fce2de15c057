/- Diagonal forms, plainly: what holds at each step, and that the procedure ends; Diagonal forms, plainly: what the end is like, and properties that all operations keep; Diagonal forms, plainly: sums, products and determinants of small matrices; Diagonal forms, plainly: minors, and what they say about the diagonal; Diagonal forms, plainly: the diagonal is known by the minors; Arithmetic of 64 bits: sums and products of what has been cut to 64 bits. -/
import Derived.Test.YthfachbkcmifbaaGreatGrCS1
namespace Go.Proofs.Sm
theorem small_iff {x : Int} : small x = true ↔ -1000000000 ≤ x ∧ x ≤ 1000000000 := by simp [small]
theorem fineM_iff {m : Mat} : fineM m = true ↔ ∀ i j, -1000000000 ≤ ent m i j ∧ ent m i j ≤ 1000000000 := by
  unfold fineM
  rw [List.all_eq_true]
  constructor
  · intro h i j
    unfold ent
    rcases Nat.lt_or_ge i m.length with hi | hi
    · have h1 := h (m.getD i []) (by rw [List.getD_eq_getElem?_getD, List.getElem?_eq_getElem hi]; exact List.getElem_mem hi)
      rcases Nat.lt_or_ge j (m.getD i []).length with hj | hj
      · rw [List.getD_eq_getElem?_getD (l := m.getD i []), List.getElem?_eq_getElem hj]
        exact small_iff.1 (List.all_eq_true.1 h1 _ (List.getElem_mem hj))
      · rw [List.getD_eq_getElem?_getD (l := m.getD i []), List.getElem?_eq_none hj]; decide
    · rw [List.getD_eq_getElem?_getD (l := m), List.getElem?_eq_none hi]; simp
  · intro h x hx
    rw [List.all_eq_true]
    intro y hy
    obtain ⟨i, hi, rfl⟩ := List.getElem_of_mem hx
    obtain ⟨j, hj, rfl⟩ := List.getElem_of_mem hy
    have := h i j
    rw [small_iff]
    simpa [ent, List.getD_eq_getElem?_getD, List.getElem?_eq_getElem hi, List.getElem?_eq_getElem hj] using this
structure Shape (r n : Nat) (s : S) : Prop where
  ra : Rect s.a r n
  ru : Rect s.u r r
  rv : Rect s.v n n
section
variable {r n : Nat} {s : S}
theorem Shape.addR (h : Shape r n s) {i k : Nat} (hk : k < r) (x : Int) : Shape r n (s.addR i k x) := ⟨rect_addR h.ra hk x, rect_addR h.ru hk x, h.rv⟩
theorem Shape.addC (h : Shape r n s) (j k : Nat) (x : Int) : Shape r n (s.addC j k x) := ⟨rect_addC h.ra j k x, h.ru, rect_addC h.rv j k x⟩
theorem Shape.swR (h : Shape r n s) {i k : Nat} (hi : i < r) (hk : k < r) : Shape r n (s.swR i k) := ⟨rect_swR h.ra hi hk, rect_swR h.ru hi hk, h.rv⟩
theorem Shape.swC (h : Shape r n s) (j k : Nat) : Shape r n (s.swC j k) := ⟨rect_swC h.ra j k, h.ru, rect_swC h.rv j k⟩
/-- the quotient by which a row is cleared -/
def qR (s : S) (i : Nat) : Int := (ent s.a i s.t).tdiv (ent s.a s.t s.t)
def qC (s : S) (j : Nat) : Int := (ent s.a s.t j).tdiv (ent s.a s.t s.t)
structure Dn (r n : Nat) (s s' : S) (k : Nat) : Prop where
  sh : Shape r n s'
  t : s'.t = s.t
  v : s'.v = s.v
  a : ∀ i j, ent s'.a i j = if s.t < i ∧ i < k then ent s.a i j + -qR s i * ent s.a s.t j else ent s.a i j
  u : ∀ i j, ent s'.u i j = if s.t < i ∧ i < k then ent s.u i j + -qR s i * ent s.u s.t j else ent s.u i j
structure Ac (r n : Nat) (s s' : S) (k : Nat) : Prop where
  sh : Shape r n s'
  t : s'.t = s.t
  u : s'.u = s.u
  a : ∀ i j, ent s'.a i j = if s.t < j ∧ j < k then ent s.a i j + -qC s j * ent s.a i s.t else ent s.a i j
  v : ∀ i j, ent s'.v i j = if s.t < j ∧ j < k then ent s.v i j + -qC s j * ent s.v i s.t else ent s.v i j
theorem dn_upto (h : Shape r n s) (ht : s.t < r) : ∀ k, s.t + 1 ≤ k → k ≤ r → Dn r n s (upto S.dn s (s.t + 1) k) k :=
  upto_inv (fun k s' => k ≤ r → Dn r n s s' k) S.dn
    (fun _ => ⟨h, rfl, rfl, fun i j => by rw [if_neg (by omega)], fun i j => by rw [if_neg (by omega)]⟩)
    (fun k s' hk ih hk' => by
      obtain ⟨h1, h2, h3, h4, h5⟩ := ih (by omega)
      have e1 : ent s'.a k s'.t = ent s.a k s.t := by rw [h2, h4, if_neg (by omega)]
      have e2 : ent s'.a s'.t s'.t = ent s.a s.t s.t := by rw [h2, h4, if_neg (by omega)]
      have e : s'.dn k = s'.addR k s.t (-qR s k) := by unfold S.dn qR; rw [e1, e2, h2]
      rw [e]
      refine ⟨h1.addR ht _, h2, h3, fun i j => ?_, fun i j => ?_⟩
      · show ent (Sm.addR s'.a k s.t _) i j = _
        rw [ent_addR h1.ra (by omega) ht, h4 k, h4 s.t, h4 i]
        by_cases e : i = k
        · subst e; rw [if_pos rfl, if_neg (by omega), if_neg (by omega), if_pos ⟨by omega, by omega⟩]
        · rw [if_neg e]
          by_cases e2 : s.t < i ∧ i < k
          · rw [if_pos e2, if_pos ⟨e2.1, by omega⟩]
          · rw [if_neg e2, if_neg (fun hh => e2 ⟨hh.1, by omega⟩)]
      · show ent (Sm.addR s'.u k s.t _) i j = _
        rw [ent_addR h1.ru (by omega) ht, h5 k, h5 s.t, h5 i]
        by_cases e : i = k
        · subst e; rw [if_pos rfl, if_neg (by omega), if_neg (by omega), if_pos ⟨by omega, by omega⟩]
        · rw [if_neg e]
          by_cases e2 : s.t < i ∧ i < k
          · rw [if_pos e2, if_pos ⟨e2.1, by omega⟩]
          · rw [if_neg e2, if_neg (fun hh => e2 ⟨hh.1, by omega⟩)])
theorem ac_upto (h : Shape r n s) (_ht : s.t < n) : ∀ k, s.t + 1 ≤ k → k ≤ n → Ac r n s (upto S.ac s (s.t + 1) k) k :=
  upto_inv (fun k s' => k ≤ n → Ac r n s s' k) S.ac
    (fun _ => ⟨h, rfl, rfl, fun i j => by rw [if_neg (by omega)], fun i j => by rw [if_neg (by omega)]⟩)
    (fun k s' hk ih hk' => by
      obtain ⟨h1, h2, h3, h4, h5⟩ := ih (by omega)
      have e1 : ent s'.a s'.t k = ent s.a s.t k := by rw [h2, h4, if_neg (by omega)]
      have e2 : ent s'.a s'.t s'.t = ent s.a s.t s.t := by rw [h2, h4, if_neg (by omega)]
      have e : s'.ac k = s'.addC k s.t (-qC s k) := by unfold S.ac qC; rw [e1, e2, h2]
      rw [e]
      refine ⟨h1.addC _ _ _, h2, h3, fun i j => ?_, fun i j => ?_⟩
      · show ent (Sm.addC s'.a k s.t _) i j = _
        rw [ent_addC h1.ra (by omega), h4 i k, h4 i s.t, h4 i j]
        by_cases e : j = k
        · subst e; rw [if_pos rfl, if_neg (by omega), if_neg (by omega), if_pos ⟨by omega, by omega⟩]
        · rw [if_neg e]
          by_cases e2 : s.t < j ∧ j < k
          · rw [if_pos e2, if_pos ⟨e2.1, by omega⟩]
          · rw [if_neg e2, if_neg (fun hh => e2 ⟨hh.1, by omega⟩)]
      · show ent (Sm.addC s'.v k s.t _) i j = _
        rw [ent_addC h1.rv (by omega), h5 i k, h5 i s.t, h5 i j]
        by_cases e : j = k
        · subst e; rw [if_pos rfl, if_neg (by omega), if_neg (by omega), if_pos ⟨by omega, by omega⟩]
        · rw [if_neg e]
          by_cases e2 : s.t < j ∧ j < k
          · rw [if_pos e2, if_pos ⟨e2.1, by omega⟩]
          · rw [if_neg e2, if_neg (fun hh => e2 ⟨hh.1, by omega⟩)])
theorem tdiv_rest (x y : Int) : x + -(x.tdiv y) * y = x.tmod y := by
  have := Int.tmod_add_mul_tdiv x y
  rw [Int.neg_mul, Int.mul_comm (x.tdiv y) y]; omega
/-- what holds at each step -/
structure Base (r n : Nat) (s : S) : Prop where
  sh : Shape r n s
  tr : s.t ≤ r
  tn : s.t ≤ n
  fa : fineM s.a = true
  fu : fineM s.u = true
  fv : fineM s.v = true
  diag : ∀ i j, i ≠ j → (i < s.t ∨ j < s.t) → ent s.a i j = 0
  pos : ∀ i, i < s.t → 0 < ent s.a i i
  dvd : ∀ i p q, i < s.t → i ≤ p → i ≤ q → ent s.a i i ∣ ent s.a p q
structure Piv (r n : Nat) (s : S) : Prop extends Base r n s where
  ltr : s.t < r
  ltn : s.t < n
  piv : ent s.a s.t s.t ≠ 0
structure Acr (r n : Nat) (s : S) : Prop extends Piv r n s where
  less : ∀ i, s.t < i → (ent s.a i s.t).natAbs < (ent s.a s.t s.t).natAbs
structure Spr (r n : Nat) (s : S) : Prop extends Piv r n s where
  zr : ∀ i, s.t < i → ent s.a i s.t = 0
  zc : ∀ j, s.t < j → ent s.a s.t j = 0
structure Sgn (r n : Nat) (s : S) : Prop extends Spr r n s where
  all : ∀ i j, s.t < i → s.t < j → ent s.a s.t s.t ∣ ent s.a i j
def PI (r n : Nat) : Ph → S → Prop
  | .choose => Base r n
  | .down => Piv r n
  | .across => Acr r n
  | .spread => Spr r n
  | .sign => Sgn r n
/-- the least entry -/
def Least (a : Mat) (_t : Nat) (D : Nat → Nat → Prop) (o : Option (Nat × Nat)) : Prop :=
  match o with
  | none => ∀ i j, D i j → ent a i j = 0
  | some (x, y) => D x y ∧ ent a x y ≠ 0 ∧ ∀ i j, D i j → ent a i j ≠ 0 → (ent a x y).natAbs ≤ (ent a i j).natAbs
theorem better_least {a : Mat} {t : Nat} {D D' : Nat → Nat → Prop} {o : Option (Nat × Nat)} {i j : Nat} (h : Least a t D o) (hD : ∀ p q, D' p q ↔ (D p q ∨ (p = i ∧ q = j))) : Least a t D' (better a i o j) := by
  unfold better
  rcases o with _ | ⟨x, y⟩
  · simp only
    split
    · intro p q hp
      rcases (hD p q).1 hp with hp | ⟨rfl, rfl⟩
      · exact h p q hp
      · assumption
    · rename_i hne
      refine ⟨(hD _ _).2 (.inr ⟨rfl, rfl⟩), hne, fun p q hp hpq => ?_⟩
      rcases (hD p q).1 hp with hp | ⟨rfl, rfl⟩
      · exact absurd (h p q hp) hpq
      · exact Nat.le_refl _
  · simp only
    obtain ⟨h1, h2, h3⟩ := h
    split
    · rename_i hc
      refine ⟨(hD _ _).2 (.inr ⟨rfl, rfl⟩), hc.1, fun p q hp hpq => ?_⟩
      rcases (hD p q).1 hp with hp | ⟨rfl, rfl⟩
      · have := h3 p q hp hpq; omega
      · exact Nat.le_refl _
    · rename_i hc
      refine ⟨(hD _ _).2 (.inl h1), h2, fun p q hp hpq => ?_⟩
      rcases (hD p q).1 hp with hp | ⟨rfl, rfl⟩
      · exact h3 p q hp hpq
      · rcases Nat.lt_or_ge (ent a p q).natAbs (ent a x y).natAbs with h | h
        · exact absurd ⟨hpq, h⟩ hc
        · exact h
theorem least_ok (a : Mat) {t r n : Nat} (hr : t ≤ r) (hn : t ≤ n) : Least a t (fun i j => t ≤ i ∧ i < r ∧ t ≤ j ∧ j < n) (least a t r n) := by
  have h := upto_inv (fun k o => k ≤ r → Least a t (fun i j => t ≤ i ∧ i < k ∧ t ≤ j ∧ j < n) o) (leastRow a t n) (s := none) (lo := t)
    (fun _ i j h => by omega) (fun k o hk ih hk' => by
      have h2 := upto_inv (fun m o' => m ≤ n → Least a t (fun i j => (t ≤ i ∧ i < k ∧ t ≤ j ∧ j < n) ∨ (i = k ∧ t ≤ j ∧ j < m)) o') (better a k) (s := o) (lo := t)
        (fun _ => by
          have := ih (by omega)
          have e : (fun i j => (t ≤ i ∧ i < k ∧ t ≤ j ∧ j < n) ∨ (i = k ∧ t ≤ j ∧ j < t)) = fun i j => t ≤ i ∧ i < k ∧ t ≤ j ∧ j < n := by
            funext i j; apply propext; constructor
            · rintro (h | h)
              · exact h
              · omega
            · exact .inl
          rw [e]; exact this)
        (fun m o' hm ih' hm' => better_least (ih' (by omega)) (fun p q => by
          constructor
          · rintro (h | ⟨h1, h2, h3⟩)
            · exact .inl (.inl h)
            · by_cases e : q = m
              · exact .inr ⟨h1, e⟩
              · exact .inl (.inr ⟨h1, h2, by omega⟩)
          · rintro ((h | h) | ⟨rfl, rfl⟩)
            · exact .inl h
            · exact .inr ⟨h.1, h.2.1, by omega⟩
            · exact .inr ⟨rfl, hm, by omega⟩)) n hn (Nat.le_refl _)
      have e : (fun i j => (t ≤ i ∧ i < k ∧ t ≤ j ∧ j < n) ∨ (i = k ∧ t ≤ j ∧ j < n)) = fun i j => t ≤ i ∧ i < k + 1 ∧ t ≤ j ∧ j < n := by
        funext i j; apply propext; constructor
        · rintro (h | h) <;> omega
        · intro h
          by_cases e : i = k
          · exact .inr ⟨e, h.2.2⟩
          · exact .inl ⟨h.1, by omega, h.2.2⟩
      rw [e] at h2
      exact h2)
  exact h r hr (Nat.le_refl _)
theorem sw_lt {t x p : Nat} (hx : t ≤ x) (hp : p < t) : sw t x p = p := by unfold sw; rw [if_neg (by omega), if_neg (by omega)]
theorem sw_ge {t x p : Nat} (hx : t ≤ x) (hp : t ≤ p) : t ≤ sw t x p := by
  unfold sw
  split
  · exact hx
  · split <;> omega
theorem sw_bd {t x p r : Nat} (ht : t < r) (hx : x < r) (hp : p < r) : sw t x p < r := by
  unfold sw
  split
  · exact hx
  · split <;> omega
theorem pi_choose (h : Base r n s) {x y : Nat} (htr : s.t < r) (htn : s.t < n) (hl : least s.a s.t r n = some (x, y)) : Piv r n ((s.swR s.t x).swC s.t y) ∧ ent ((s.swR s.t x).swC s.t y).a s.t s.t = ent s.a x y := by
  have hL := least_ok s.a h.tr h.tn
  rw [hl] at hL
  obtain ⟨⟨h1, h2, h3, h4⟩, h5, h6⟩ := hL
  have e : ∀ i j, ent ((s.swR s.t x).swC s.t y).a i j = ent s.a (sw s.t x i) (sw s.t y j) := fun i j => by
    show ent (Sm.swC (Sm.swR s.a s.t x) s.t y) i j = _
    rw [ent_swC (rect_swR h.sh.ra htr h2) htn h4, ent_swR h.sh.ra htr h2]
  have e0 : ent ((s.swR s.t x).swC s.t y).a s.t s.t = ent s.a x y := by rw [e]; simp [sw]
  refine ⟨⟨⟨(h.sh.swR htr h2).swC _ _, h.tr, h.tn, ?_, ?_, ?_, fun i j hne hlt => ?_, fun i hi => ?_, fun i p q hi hp hq => ?_⟩, htr, htn, by rw [show ((s.swR s.t x).swC s.t y).t = s.t from rfl, e0]; exact h5⟩, e0⟩
  · rw [fineM_iff]; intro i j; rw [e]; exact fineM_iff.1 h.fa _ _
  · rw [fineM_iff]; intro i j
    show -1000000000 ≤ ent (Sm.swR s.u s.t x) i j ∧ ent (Sm.swR s.u s.t x) i j ≤ _
    rw [ent_swR h.sh.ru htr h2]; exact fineM_iff.1 h.fu _ _
  · rw [fineM_iff]; intro i j
    show -1000000000 ≤ ent (Sm.swC s.v s.t y) i j ∧ ent (Sm.swC s.v s.t y) i j ≤ _
    rw [ent_swC h.sh.rv htn h4]; exact fineM_iff.1 h.fv _ _
  · rw [e]
    have hlt' : i < s.t ∨ j < s.t := hlt
    rcases hlt' with hi | hj
    · rw [sw_lt h1 hi]
      refine h.diag _ _ ?_ (.inl hi)
      rcases Nat.lt_or_ge j s.t with hj | hj
      · rw [sw_lt h3 hj]; exact hne
      · have := sw_ge h3 hj; omega
    · rw [sw_lt h3 hj]
      refine h.diag _ _ ?_ (.inr hj)
      rcases Nat.lt_or_ge i s.t with hi | hi
      · rw [sw_lt h1 hi]; exact hne
      · have := sw_ge h1 hi; omega
  · rw [e]
    have hi' : i < s.t := hi
    rw [sw_lt h1 hi', sw_lt h3 hi']; exact h.pos i hi'
  · have hi' : i < s.t := hi
    rw [e, e, sw_lt h1 hi', sw_lt h3 hi']
    refine h.dvd i _ _ hi' ?_ ?_
    · rcases Nat.lt_or_ge p s.t with h | h
      · rw [sw_lt h1 h]; exact hp
      · have := sw_ge h1 h; omega
    · rcases Nat.lt_or_ge q s.t with h | h
      · rw [sw_lt h3 h]; exact hq
      · have := sw_ge h3 h; omega
theorem natAbs_tmod_lt (x : Int) {y : Int} (h : y ≠ 0) : (x.tmod y).natAbs < y.natAbs := by
  rw [Int.natAbs_tmod]
  exact Nat.mod_lt _ (by omega)
theorem down_at (h : Piv r n s) : Dn r n s (s.down r) r := dn_upto h.sh h.ltr r h.ltr (Nat.le_refl _)
theorem across_at (h : Piv r n s) : Ac r n s (s.across n) n := ac_upto h.sh h.ltn n h.ltn (Nat.le_refl _)
theorem fine_parts (h : s.fine = true) : fineM s.a = true ∧ fineM s.u = true ∧ fineM s.v = true := by
  unfold S.fine at h
  simpa using h
theorem pi_down (h : Piv r n s) (hf : (s.down r).fine = true) : Acr r n (s.down r) ∧ (s.down r).t = s.t ∧ ent (s.down r).a s.t s.t = ent s.a s.t s.t := by
  have hd := down_at h
  obtain ⟨f1, f2, f3⟩ := fine_parts hf
  have e0 : ∀ j, ent (s.down r).a s.t j = ent s.a s.t j := fun j => by rw [hd.a, if_neg (by omega)]
  have e1 : ∀ i, s.t < i → ent (s.down r).a i s.t = (ent s.a i s.t).tmod (ent s.a s.t s.t) := fun i hi => by
    rw [hd.a]
    rcases Nat.lt_or_ge i r with h1 | h1
    · rw [if_pos ⟨hi, h1⟩]; exact tdiv_rest _ _
    · rw [if_neg (by omega), ent_out (by rw [h.sh.ra.1]; exact h1)]; simp
  refine ⟨⟨⟨⟨hd.sh, by rw [hd.t]; exact h.tr, by rw [hd.t]; exact h.tn, f1, f2, f3, ?_, ?_, ?_⟩, by rw [hd.t]; exact h.ltr, by rw [hd.t]; exact h.ltn, by rw [hd.t, e0]; exact h.piv⟩, ?_⟩, hd.t, e0 _⟩
  · rw [hd.t]
    intro i j hne hlt
    rw [hd.a]
    split
    · have hj : j < s.t := by omega
      rw [h.diag i j hne hlt, h.diag s.t j (by omega) (.inr hj)]; simp
    · exact h.diag i j hne hlt
  · rw [hd.t]; intro i hi; rw [hd.a, if_neg (by omega)]; exact h.pos i hi
  · rw [hd.t]; intro i p q hi hp hq
    rw [hd.a i i, if_neg (by omega), hd.a]
    split
    · exact Int.dvd_add (h.dvd i p q hi hp hq) (Int.dvd_mul_of_dvd_right (h.dvd i s.t q hi (by omega) hq))
    · exact h.dvd i p q hi hp hq
  · rw [hd.t]; intro i hi
    rw [e1 i hi, e0]; exact natAbs_tmod_lt _ h.piv
theorem pi_across (h : Acr r n s) (hf : (s.across n).fine = true) : Acr r n (s.across n) ∧ (s.across n).t = s.t ∧ ent (s.across n).a s.t s.t = ent s.a s.t s.t ∧ (∀ i, ent (s.across n).a i s.t = ent s.a i s.t) ∧ ∀ j, s.t < j → ent (s.across n).a s.t j = (ent s.a s.t j).tmod (ent s.a s.t s.t) := by
  have hd := across_at h.toPiv
  obtain ⟨f1, f2, f3⟩ := fine_parts hf
  have e0 : ∀ i, ent (s.across n).a i s.t = ent s.a i s.t := fun j => by rw [hd.a, if_neg (by omega)]
  have e1 : ∀ j, s.t < j → ent (s.across n).a s.t j = (ent s.a s.t j).tmod (ent s.a s.t s.t) := fun i hi => by
    rw [hd.a]
    rcases Nat.lt_or_ge i n with h1 | h1
    · rw [if_pos ⟨hi, h1⟩]; exact tdiv_rest _ _
    · rw [if_neg (by omega), ent_right h.sh.ra h1]; simp
  refine ⟨⟨⟨⟨hd.sh, by rw [hd.t]; exact h.tr, by rw [hd.t]; exact h.tn, f1, f2, f3, ?_, ?_, ?_⟩, by rw [hd.t]; exact h.ltr, by rw [hd.t]; exact h.ltn, by rw [hd.t, e0]; exact h.piv⟩, ?_⟩, hd.t, e0 _, e0, e1⟩
  · rw [hd.t]
    intro i j hne hlt
    rw [hd.a]
    split
    · have hj : i < s.t := by omega
      rw [h.diag i j hne hlt, h.diag i s.t (by omega) (.inl hj)]; simp
    · exact h.diag i j hne hlt
  · rw [hd.t]; intro i hi; rw [hd.a, if_neg (by omega)]; exact h.pos i hi
  · rw [hd.t]; intro i p q hi hp hq
    rw [hd.a i i, if_neg (by omega), hd.a]
    split
    · exact Int.dvd_add (h.dvd i p q hi hp hq) (Int.dvd_mul_of_dvd_right (h.dvd i p s.t hi hp (by omega)))
    · exact h.dvd i p q hi hp hq
  · rw [hd.t]; intro i hi
    rw [e0, e0]; exact h.less i hi
theorem any_range {lo hi : Nat} {p : Nat → Bool} : ((List.range' lo (hi - lo)).any p) = true ↔ ∃ i, lo ≤ i ∧ i < hi ∧ p i = true := by
  rw [List.any_eq_true]
  constructor
  · rintro ⟨i, hi, hp⟩; rw [List.mem_range'_1] at hi; exact ⟨i, hi.1, by omega, hp⟩
  · rintro ⟨i, h1, h2, hp⟩; exact ⟨i, by rw [List.mem_range'_1]; omega, hp⟩
theorem restR_iff : s.restR r = true ↔ ∃ i, s.t + 1 ≤ i ∧ i < r ∧ ent s.a i s.t ≠ 0 := by unfold S.restR; rw [any_range]; simp
theorem restC_iff : s.restC n = true ↔ ∃ i, s.t + 1 ≤ i ∧ i < n ∧ ent s.a s.t i ≠ 0 := by unfold S.restC; rw [any_range]; simp
theorem odd_iff {i : Nat} : s.odd n i = true ↔ ∃ j, s.t + 1 ≤ j ∧ j < n ∧ (ent s.a i j).tmod (ent s.a s.t s.t) ≠ 0 := by unfold S.odd; rw [any_range]; simp
theorem pi_spread (h : Acr r n s) (hr : s.restR r = false) (hc : s.restC n = false) : Spr r n s := by
  refine ⟨h.toPiv, fun i hi => ?_, fun j hj => ?_⟩
  · rcases Nat.lt_or_ge i r with h1 | h1
    · apply Classical.byContradiction; intro hne
      rw [restR_iff.2 ⟨i, hi, h1, hne⟩] at hr; cases hr
    · exact ent_out (by rw [h.sh.ra.1]; exact h1)
  · rcases Nat.lt_or_ge j n with h1 | h1
    · apply Classical.byContradiction; intro hne
      rw [restC_iff.2 ⟨j, hj, h1, hne⟩] at hc; cases hc
    · exact ent_right h.sh.ra h1
theorem pi_sign (h : Spr r n s) (hs : s.spreadAt r n = none) : Sgn r n s := by
  refine ⟨h, fun i j hi hj => ?_⟩
  rcases Nat.lt_or_ge i r with h1 | h1
  · rcases Nat.lt_or_ge j n with h2 | h2
    · apply Int.dvd_of_tmod_eq_zero
      apply Classical.byContradiction; intro hne
      unfold S.spreadAt at hs
      rw [List.find?_eq_none] at hs
      exact hs i (by rw [List.mem_range'_1]; omega) (odd_iff.2 ⟨j, hj, h2, hne⟩)
    · rw [ent_right h.sh.ra h2]; exact Int.dvd_zero _
  · rw [ent_out (i := i) (j := j) (by rw [h.sh.ra.1]; exact h1)]; exact Int.dvd_zero _
theorem spreadAt_some {i : Nat} (hs : s.spreadAt r n = some i) : s.t < i ∧ i < r ∧ ∃ j, s.t + 1 ≤ j ∧ j < n ∧ (ent s.a i j).tmod (ent s.a s.t s.t) ≠ 0 := by
  unfold S.spreadAt at hs
  have h1 := List.mem_of_find?_eq_some hs
  have h2 := List.find?_some hs
  rw [List.mem_range'_1] at h1
  exact ⟨by omega, by omega, odd_iff.1 h2⟩
theorem pi_again (h : Spr r n s) {i : Nat} (hs : s.spreadAt r n = some i) (hf : (s.addR s.t i 1).fine = true) : Acr r n (s.addR s.t i 1) ∧ ent (s.addR s.t i 1).a s.t s.t = ent s.a s.t s.t ∧ ∃ j, s.t + 1 ≤ j ∧ j < n ∧ (ent (s.addR s.t i 1).a s.t j).tmod (ent s.a s.t s.t) ≠ 0 := by
  obtain ⟨h1, h2, j, h3, h4, h5⟩ := spreadAt_some hs
  obtain ⟨f1, f2, f3⟩ := fine_parts hf
  have e : ∀ p q, ent (s.addR s.t i 1).a p q = if p = s.t then ent s.a s.t q + 1 * ent s.a i q else ent s.a p q := ent_addR h.sh.ra h.ltr h2 1
  have e0 : ent (s.addR s.t i 1).a s.t s.t = ent s.a s.t s.t := by rw [e, if_pos rfl, h.zr i h1]; omega
  refine ⟨⟨⟨⟨h.sh.addR h2 1, h.tr, h.tn, f1, f2, f3, fun p q hne hlt => ?_, fun p hp => ?_, fun p q' q hi hp hq => ?_⟩, h.ltr, h.ltn, ?_⟩, fun p hp => ?_⟩, e0, j, h3, h4, ?_⟩
  · have hlt' : p < s.t ∨ q < s.t := hlt
    rw [e]
    split
    · rename_i ep; subst ep
      rw [h.diag s.t q hne hlt', h.diag i q (by omega) (by omega)]; rfl
    · exact h.diag p q hne hlt'
  · have hp' : p < s.t := hp
    rw [e, if_neg (by omega)]; exact h.pos p hp'
  · have hi' : p < s.t := hi
    rw [e p p, if_neg (by omega), e]
    split
    · rename_i ep; subst ep
      exact Int.dvd_add (h.dvd p _ q hi' hp hq) (by rw [Int.one_mul]; exact h.dvd p i q hi' (by omega) hq)
    · exact h.dvd p q' q hi' hp hq
  · show ent (s.addR s.t i 1).a s.t s.t ≠ 0
    rw [e0]; exact h.piv
  · have hp' : s.t < p := hp
    show (ent (s.addR s.t i 1).a p s.t).natAbs < (ent (s.addR s.t i 1).a s.t s.t).natAbs
    have := h.piv
    rw [e0, e, if_neg (by omega), h.zr p hp']; omega
  · rw [e, if_pos rfl, h.zc j h3, Int.zero_add, Int.one_mul]; exact h5
theorem pi_next (h : Sgn r n s) : Base r n { s.sign with t := s.t + 1 } := by
  unfold S.sign
  split
  · rename_i hneg
    have e : ∀ p q, ent (s.addR s.t s.t (-2)).a p q = if p = s.t then - ent s.a s.t q else ent s.a p q := fun p q => by
      show ent (Sm.addR s.a s.t s.t (-2)) p q = _
      rw [ent_addR h.sh.ra h.ltr h.ltr]
      split <;> omega
    refine ⟨⟨(h.sh.addR h.ltr _).ra, (h.sh.addR h.ltr _).ru, h.sh.rv⟩, h.ltr, h.ltn, ?_, ?_, h.fv, fun i j hne hlt => ?_, fun i hi => ?_, fun i p q hi hp hq => ?_⟩
    · rw [fineM_iff]; intro i j
      show -1000000000 ≤ ent (s.addR s.t s.t (-2)).a i j ∧ ent (s.addR s.t s.t (-2)).a i j ≤ _
      rw [e]
      have := fineM_iff.1 h.fa s.t j
      have := fineM_iff.1 h.fa i j
      split <;> omega
    · rw [fineM_iff]; intro i j
      show -1000000000 ≤ ent (Sm.addR s.u s.t s.t (-2)) i j ∧ ent (Sm.addR s.u s.t s.t (-2)) i j ≤ _
      rw [ent_addR h.sh.ru h.ltr h.ltr]
      have := fineM_iff.1 h.fu s.t j
      have := fineM_iff.1 h.fu i j
      split <;> omega
    · have hlt' : i < s.t + 1 ∨ j < s.t + 1 := hlt
      show ent (s.addR s.t s.t (-2)).a i j = 0
      rw [e]
      split
      · rename_i ei; subst ei
        rcases Nat.lt_or_ge j s.t with hj | hj
        · rw [h.diag _ j hne (.inr hj)]; rfl
        · rw [h.zc j (by omega)]; rfl
      · rename_i ei
        by_cases c : i < s.t ∨ j < s.t
        · exact h.diag i j hne c
        · obtain rfl : j = s.t := by omega
          exact h.zr i (by omega)
    · have hi' : i < s.t + 1 := hi
      show 0 < ent (s.addR s.t s.t (-2)).a i i
      rw [e]
      split
      · rename_i ei; subst ei; omega
      · exact h.pos i (by omega)
    · have hi' : i < s.t + 1 := hi
      show ent (s.addR s.t s.t (-2)).a i i ∣ ent (s.addR s.t s.t (-2)).a p q
      have key : ent s.a i i ∣ ent s.a p q := by
        by_cases ei : i = s.t
        · subst ei
          by_cases ep : p = s.t
          · subst ep
            by_cases eq : q = s.t
            · subst eq; exact Int.dvd_refl _
            · rw [h.zc q (by omega)]; exact Int.dvd_zero _
          · by_cases eq : q = s.t
            · subst eq; rw [h.zr p (by omega)]; exact Int.dvd_zero _
            · exact h.all p q (by omega) (by omega)
        · exact h.dvd i p q (by omega) hp hq
      have key2 : ent s.a i i ∣ ent (s.addR s.t s.t (-2)).a p q := by
        rw [e]
        split
        · rename_i ep; subst ep; exact Int.dvd_neg.2 key
        · exact key
      rw [e i i]
      split
      · rename_i ei; subst ei; exact Int.neg_dvd.2 key2
      · exact key2
  · rename_i hneg
    refine ⟨⟨h.sh.ra, h.sh.ru, h.sh.rv⟩, h.ltr, h.ltn, h.fa, h.fu, h.fv, fun i j hne hlt => ?_, fun i hi => ?_, fun i p q hi hp hq => ?_⟩
    · have hlt' : i < s.t + 1 ∨ j < s.t + 1 := hlt
      by_cases c : i < s.t ∨ j < s.t
      · exact h.diag i j hne c
      · show ent s.a i j = 0
        by_cases ei : i = s.t
        · subst ei; exact h.zc j (by omega)
        · obtain rfl : j = s.t := by omega
          exact h.zr i (by omega)
    · have hi' : i < s.t + 1 := hi
      show 0 < ent s.a i i
      by_cases ei : i = s.t
      · subst ei; have := h.piv; omega
      · exact h.pos i (by omega)
    · have hi' : i < s.t + 1 := hi
      show ent s.a i i ∣ ent s.a p q
      by_cases ei : i = s.t
      · subst ei
        by_cases ep : p = s.t
        · subst ep
          by_cases eq : q = s.t
          · subst eq; exact Int.dvd_refl _
          · rw [h.zc q (by omega)]; exact Int.dvd_zero _
        · by_cases eq : q = s.t
          · subst eq; rw [h.zr p (by omega)]; exact Int.dvd_zero _
          · exact h.all p q (by omega) (by omega)
      · exact h.dvd i p q (by omega) hp hq
theorem next_choose : next r n .choose s = if s.t = r ∨ s.t = n then some (none, s) else match least s.a s.t r n with
    | none => some (none, s)
    | some (x, y) => some (some .down, (s.swR s.t x).swC s.t y) := rfl
theorem next_down : next r n .down s = if (s.down r).fine then some (some .across, s.down r) else none := rfl
theorem next_across : next r n .across s = if (s.across n).fine then some (some (if (s.across n).restR r || (s.across n).restC n then .choose else .spread), s.across n) else none := rfl
theorem next_spread : next r n .spread s = match s.spreadAt r n with
    | none => some (some .sign, s)
    | some i => if (s.addR s.t i 1).fine then some (some .across, s.addR s.t i 1) else none := rfl
theorem next_sign : next r n .sign s = some (some .choose, { s.sign with t := s.t + 1 }) := rfl
theorem next_pi {p p' : Ph} {s' : S} (h : PI r n p s) (hn : next r n p s = some (some p', s')) : PI r n p' s' := by
  cases p
  · rw [next_choose] at hn
    split at hn
    · cases hn
    · rename_i hc
      split at hn
      · cases hn
      · rename_i x y hl
        cases hn
        exact (pi_choose h (by have := h.tr; omega) (by have := h.tn; omega) hl).1
  · rw [next_down] at hn
    split at hn
    · rename_i hf
      cases hn
      exact (pi_down h hf).1
    · cases hn
  · rw [next_across] at hn
    split at hn
    · rename_i hf
      have h1 := (pi_across h hf).1
      cases hb : (s.across n).restR r || (s.across n).restC n
      · rw [hb] at hn
        cases hn
        rw [Bool.or_eq_false_iff] at hb
        exact pi_spread h1 hb.1 hb.2
      · rw [hb] at hn
        cases hn
        exact h1.toBase
    · cases hn
  · rw [next_spread] at hn
    split at hn
    · rename_i hs
      cases hn
      exact pi_sign h hs
    · rename_i i hs
      split at hn
      · rename_i hf
        cases hn
        exact (pi_again h hs hf).1
      · cases hn
  · rw [next_sign] at hn
    cases hn
    exact pi_next h
def Ends (r n : Nat) (p : Ph) (s : S) : Prop := ∃ k o, run r n k p s = some o
theorem ends_next {p : Ph} (h : ∀ p' s', next r n p s = some (some p', s') → Ends r n p' s') : Ends r n p s := by
  cases hn : next r n p s with
  | none => exact ⟨1, none, by simp [run, hn]⟩
  | some x =>
    obtain ⟨q, s'⟩ := x
    cases q with
    | none => exact ⟨1, some s', by simp [run, hn]⟩
    | some p' =>
      obtain ⟨k, o, h1⟩ := h p' s' hn
      exact ⟨k + 1, o, by simp [run, hn, h1]⟩
theorem ends_choose : ∀ (d : Nat) (s : S), Base r n s → r - s.t = d → Ends r n .choose s := by
  intro d
  induction d using Nat.strongRecOn with
  | _ d IH =>
    have main : ∀ (N : Nat) (s : S), Base r n s → r - s.t = d → (∃ i j, s.t ≤ i ∧ i < r ∧ s.t ≤ j ∧ j < n ∧ ent s.a i j ≠ 0 ∧ (ent s.a i j).natAbs ≤ N) → Ends r n .choose s := by
      intro N
      induction N using Nat.strongRecOn with
      | _ N ihN =>
        have acr : ∀ s : S, Acr r n s → r - s.t = d → (ent s.a s.t s.t).natAbs ≤ N → (∃ j, s.t + 1 ≤ j ∧ j < n ∧ (ent s.a s.t j).tmod (ent s.a s.t s.t) ≠ 0) → Ends r n .across s := by
          intro s h hd hN ⟨j, hj1, hj2, hj3⟩
          refine ends_next fun p' s' hn => ?_
          rw [next_across] at hn
          split at hn
          · rename_i hf
            obtain ⟨h1, h2, h3, h4, h5⟩ := pi_across h hf
            have hrest : (s.across n).restC n = true := restC_iff.2 ⟨j, by rw [h2]; exact hj1, hj2, by rw [h2, h5 j hj1]; exact hj3⟩
            rw [hrest, Bool.or_true, if_pos rfl] at hn
            cases hn
            have hlt := natAbs_tmod_lt (ent s.a s.t j) h.piv
            exact ihN ((ent s.a s.t j).tmod (ent s.a s.t s.t)).natAbs (by omega) _ h1.toBase (by rw [h2]; exact hd) ⟨s.t, j, by rw [h2]; omega, h.ltr, by rw [h2]; omega, hj2, by rw [h5 j hj1]; exact hj3, by rw [h5 j hj1]; omega⟩
          · cases hn
        have spr : ∀ s : S, Spr r n s → r - s.t = d → (ent s.a s.t s.t).natAbs ≤ N → Ends r n .spread s := by
          intro s h hd hN
          refine ends_next fun p' s' hn => ?_
          rw [next_spread] at hn
          split at hn
          · rename_i hs
            cases hn
            refine ends_next fun p'' s'' hn' => ?_
            rw [next_sign] at hn'
            cases hn'
            have hb := pi_next (pi_sign h hs)
            have hlt := h.ltr
            exact IH (r - (s.t + 1)) (by omega) _ hb rfl
          · rename_i i hs
            split at hn
            · rename_i hf
              cases hn
              obtain ⟨h1, h2, h3⟩ := pi_again h hs hf
              exact acr _ h1 hd (by show (ent (s.addR s.t i 1).a s.t s.t).natAbs ≤ N; rw [h2]; exact hN) (by show ∃ j, s.t + 1 ≤ j ∧ j < n ∧ (ent (s.addR s.t i 1).a s.t j).tmod (ent (s.addR s.t i 1).a s.t s.t) ≠ 0; rw [h2]; exact h3)
            · cases hn
        have acr2 : ∀ s : S, Acr r n s → r - s.t = d → (ent s.a s.t s.t).natAbs ≤ N → Ends r n .across s := by
          intro s h hd hN
          refine ends_next fun p' s' hn => ?_
          rw [next_across] at hn
          split at hn
          · rename_i hf
            obtain ⟨h1, h2, h3, h4, h5⟩ := pi_across h hf
            cases hb : (s.across n).restR r || (s.across n).restC n
            · rw [hb] at hn
              cases hn
              rw [Bool.or_eq_false_iff] at hb
              exact spr _ (pi_spread h1 hb.1 hb.2) (by rw [h2]; exact hd) (by rw [h2, h3]; exact hN)
            · rw [hb] at hn
              cases hn
              rw [Bool.or_eq_true] at hb
              rcases hb with hb | hb
              · obtain ⟨i, hi1, hi2, hi3⟩ := restR_iff.1 hb
                rw [h2] at hi1 hi3
                have hl := h1.less i (by rw [h2]; exact hi1)
                rw [h2, h3] at hl
                exact ihN (ent (s.across n).a i s.t).natAbs (by omega) _ h1.toBase (by rw [h2]; exact hd) ⟨i, s.t, by rw [h2]; omega, hi2, by rw [h2]; omega, h.ltn, hi3, Nat.le_refl _⟩
              · obtain ⟨j, hj1, hj2, hj3⟩ := restC_iff.1 hb
                rw [h2] at hj1 hj3
                have hlt := natAbs_tmod_lt (ent s.a s.t j) h.piv
                rw [← h5 j hj1] at hlt
                exact ihN (ent (s.across n).a s.t j).natAbs (by omega) _ h1.toBase (by rw [h2]; exact hd) ⟨s.t, j, by rw [h2]; omega, h.ltr, by rw [h2]; omega, hj2, hj3, Nat.le_refl _⟩
          · cases hn
        intro s h hd ⟨i, j, hi1, hi2, hj1, hj2, hne, hle⟩
        refine ends_next fun p' s' hn => ?_
        rw [next_choose] at hn
        split at hn
        · cases hn
        · rename_i hc
          split at hn
          · cases hn
          · rename_i x y hl
            cases hn
            obtain ⟨h1, h2⟩ := pi_choose h (by have := h.tr; omega) (by have := h.tn; omega) hl
            have hL := least_ok s.a h.tr h.tn
            rw [hl] at hL
            have hmin := hL.2.2 i j ⟨hi1, hi2, hj1, hj2⟩ hne
            refine ends_next fun p' s' hn => ?_
            rw [next_down] at hn
            split at hn
            · rename_i hf
              cases hn
              obtain ⟨h3, h4, h5⟩ := pi_down h1 hf
              refine acr2 _ h3 (by rw [h4]; exact hd) ?_
              rw [h4, h5]
              show (ent ((s.swR s.t x).swC s.t y).a s.t s.t).natAbs ≤ N
              rw [h2]; omega
            · cases hn
    intro s h hd
    refine Classical.byCases (p := ∃ i j, s.t ≤ i ∧ i < r ∧ s.t ≤ j ∧ j < n ∧ ent s.a i j ≠ 0) (fun ⟨i, j, h1, h2, h3, h4, h5⟩ => main _ s h hd ⟨i, j, h1, h2, h3, h4, h5, Nat.le_refl _⟩) fun hno => ?_
    refine ends_next fun p' s' hn => ?_
    rw [next_choose] at hn
    split at hn
    · cases hn
    · split at hn
      · cases hn
      · rename_i x y hl
        have hL := least_ok s.a h.tr h.tn
        rw [hl] at hL
        exact absurd ⟨x, y, hL.1.1, hL.1.2.1, hL.1.2.2.1, hL.1.2.2.2, hL.2.1⟩ hno
end
end Go.Proofs.Sm
namespace Go.Proofs.Sm
section
variable {r n : Nat}
/-- a property that the operations on lines keep -/
structure Closed (r n : Nat) (Q : Mat → Mat → Mat → Prop) : Prop where
  addR : ∀ (s : S) (i k : Nat) (x : Int), Shape r n s → i < r → k < r → i ≠ k → Q s.a s.u s.v → Q (Sm.addR s.a i k x) (Sm.addR s.u i k x) s.v
  neg : ∀ (s : S) (i : Nat), Shape r n s → i < r → Q s.a s.u s.v → Q (Sm.addR s.a i i (-2)) (Sm.addR s.u i i (-2)) s.v
  swR : ∀ (s : S) (i k : Nat), Shape r n s → i < r → k < r → Q s.a s.u s.v → Q (Sm.swR s.a i k) (Sm.swR s.u i k) s.v
  addC : ∀ (s : S) (j k : Nat) (x : Int), Shape r n s → j < n → k < n → j ≠ k → Q s.a s.u s.v → Q (Sm.addC s.a j k x) s.u (Sm.addC s.v j k x)
  swC : ∀ (s : S) (j k : Nat), Shape r n s → j < n → k < n → Q s.a s.u s.v → Q (Sm.swC s.a j k) s.u (Sm.swC s.v j k)
variable {Q : Mat → Mat → Mat → Prop} {s s' : S}
theorem Closed.down (h : Closed r n Q) (hs : Shape r n s) (ht : s.t < r) (hq : Q s.a s.u s.v) : Q (s.down r).a (s.down r).u (s.down r).v := by
  have := upto_inv (fun k s' => k ≤ r → Shape r n s' ∧ s'.t = s.t ∧ Q s'.a s'.u s'.v) S.dn (s := s) (lo := s.t + 1) (fun _ => ⟨hs, rfl, hq⟩)
    (fun k s' hk ih hk' => by
      obtain ⟨h1, h2, h3⟩ := ih (by omega)
      exact ⟨h1.addR (by omega) _, h2, h.addR s' k s'.t _ h1 (by omega) (by omega) (by omega) h3⟩) r ht (Nat.le_refl _)
  exact this.2.2
theorem Closed.across (h : Closed r n Q) (hs : Shape r n s) (ht : s.t < n) (hq : Q s.a s.u s.v) : Q (s.across n).a (s.across n).u (s.across n).v := by
  have := upto_inv (fun k s' => k ≤ n → Shape r n s' ∧ s'.t = s.t ∧ Q s'.a s'.u s'.v) S.ac (s := s) (lo := s.t + 1) (fun _ => ⟨hs, rfl, hq⟩)
    (fun k s' hk ih hk' => by
      obtain ⟨h1, h2, h3⟩ := ih (by omega)
      exact ⟨h1.addC _ _ _, h2, h.addC s' k s'.t _ h1 (by omega) (by omega) (by omega) h3⟩) n ht (Nat.le_refl _)
  exact this.2.2
theorem Closed.next (h : Closed r n Q) {p : Ph} {p' : Option Ph} (hp : PI r n p s) (hq : Q s.a s.u s.v) (hn : next r n p s = some (p', s')) : Q s'.a s'.u s'.v := by
  cases p
  · rw [next_choose] at hn
    split at hn
    · cases hn; exact hq
    · rename_i hc
      split at hn
      · cases hn; exact hq
      · rename_i x y hl
        cases hn
        have hL := least_ok s.a hp.tr hp.tn
        rw [hl] at hL
        have h1 : s.t < r := by have := hp.tr; omega
        have h2 : s.t < n := by have := hp.tn; omega
        exact h.swC (s.swR s.t x) s.t y (hp.sh.swR h1 hL.1.2.1) h2 hL.1.2.2.2 (h.swR s s.t x hp.sh h1 hL.1.2.1 hq)
  · rw [next_down] at hn
    split at hn
    · cases hn; exact h.down hp.sh hp.ltr hq
    · cases hn
  · rw [next_across] at hn
    split at hn
    · cases hn; exact h.across hp.sh hp.ltn hq
    · cases hn
  · rw [next_spread] at hn
    split at hn
    · cases hn; exact hq
    · rename_i i hs
      obtain ⟨h1, h2, -⟩ := spreadAt_some hs
      split at hn
      · cases hn; exact h.addR s s.t i 1 hp.sh hp.ltr h2 (by omega) hq
      · cases hn
  · rw [next_sign] at hn
    cases hn
    unfold S.sign
    split
    · exact h.neg s s.t hp.sh hp.ltr hq
    · exact hq
/-- the end -/
structure End (r n : Nat) (s : S) : Prop extends Base r n s where
  zero : ∀ i j, s.t ≤ i → s.t ≤ j → ent s.a i j = 0
theorem end_next {p : Ph} (hp : PI r n p s) (hn : next r n p s = some (none, s')) : End r n s' := by
  cases p
  · rw [next_choose] at hn
    split at hn
    · rename_i hc
      cases hn
      refine ⟨hp, fun i j hi hj => ?_⟩
      rcases hc with hc | hc
      · exact ent_out (by rw [hp.sh.ra.1]; omega)
      · exact ent_right hp.sh.ra (by omega)
    · split at hn
      · rename_i hl
        cases hn
        refine ⟨hp, fun i j hi hj => ?_⟩
        have hL := least_ok s.a hp.tr hp.tn
        rw [hl] at hL
        rcases Nat.lt_or_ge i r with h1 | h1
        · rcases Nat.lt_or_ge j n with h2 | h2
          · exact hL i j ⟨hi, h1, hj, h2⟩
          · exact ent_right hp.sh.ra h2
        · exact ent_out (by rw [hp.sh.ra.1]; omega)
      · cases hn
  · rw [next_down] at hn
    split at hn <;> cases hn
  · rw [next_across] at hn
    split at hn <;> cases hn
  · rw [next_spread] at hn
    split at hn
    · cases hn
    · split at hn <;> cases hn
  · rw [next_sign] at hn
    cases hn
theorem run_end (h : Closed r n Q) : ∀ {k : Nat} {p : Ph} {s : S} {s' : S}, PI r n p s → Q s.a s.u s.v → run r n k p s = some (some s') → End r n s' ∧ Q s'.a s'.u s'.v
  | 0, _, _, _, _, _, hr => by cases hr
  | k + 1, p, s, s', hp, hq, hr => by
    unfold run at hr
    split at hr
    · cases hr
    · rename_i s1 hn
      cases hr
      exact ⟨end_next hp hn, h.next hp hq hn⟩
    · rename_i p1 s1 hn
      exact run_end h (next_pi hp hn) (h.next hp hq hn) hr
theorem closed_true : Closed r n fun _ _ _ => True := ⟨fun _ _ _ _ _ _ _ _ _ => trivial, fun _ _ _ _ _ => trivial, fun _ _ _ _ _ _ _ => trivial, fun _ _ _ _ _ _ _ _ _ => trivial, fun _ _ _ _ _ _ _ => trivial⟩
/-- a relation matrix -/
structure Valid (n : Nat) (l : Mat) : Prop where
  row : ∀ x ∈ l, x.length = n
  bd : ∀ i j, -1000000 ≤ ent l i j ∧ ent l i j ≤ 1000000
theorem idM_length (k : Nat) : (idM k).length = k := by simp [idM]
theorem idM_rect (k : Nat) : Rect (idM k) k k := ⟨by simp [idM], fun x hx => by
  simp only [idM, List.mem_map] at hx
  obtain ⟨i, -, rfl⟩ := hx
  simp⟩
theorem idM_ent (k i j : Nat) : ent (idM k) i j = if i = j ∧ i < k then 1 else 0 := by
  rcases Nat.lt_or_ge i k with hi | hi
  · rcases Nat.lt_or_ge j k with hj | hj
    · have e : (idM k).getD i [] = (List.range k).map fun j => if i = j then 1 else 0 := by simp [idM, List.getD_eq_getElem?_getD, hi]
      unfold ent
      rw [e]
      simp only [List.getD_eq_getElem?_getD, List.getElem?_map, List.getElem?_range hj, Option.map_some, Option.getD_some]
      by_cases c : i = j
      · rw [if_pos c, if_pos ⟨c, hi⟩]
      · rw [if_neg c, if_neg (fun h => c h.1)]
    · rw [ent_right (idM_rect k) hj, if_neg (by omega)]
  · rw [ent_out (by rw [idM_length]; exact hi), if_neg (by omega)]
theorem idM_fine (k : Nat) : fineM (idM k) = true := by
  rw [fineM_iff]; intro i j; rw [idM_ent]; split <;> omega
theorem base_start {l : Mat} (h : Valid n l) : Base l.length n (S.start n l) :=
  ⟨⟨⟨rfl, h.row⟩, idM_rect _, idM_rect _⟩, Nat.zero_le _, Nat.zero_le _, by rw [fineM_iff]; intro i j; have := h.bd i j; show -1000000000 ≤ ent l i j ∧ ent l i j ≤ _; omega, idM_fine _, idM_fine _,
    fun i j _ h => by rcases h with h | h <;> exact absurd h (Nat.not_lt_zero _), fun i h => absurd h (Nat.not_lt_zero _), fun i p q h => absurd h (Nat.not_lt_zero _)⟩
/-- what becomes of a relation matrix: none where an entry is too great -/
def Out (n : Nat) (l : Mat) (o : Option S) : Prop := ∃ k, run l.length n k .choose (S.start n l) = some o
theorem out_ex {l : Mat} (h : Valid n l) : ∃ o, Out n l o := by
  obtain ⟨k, o, h⟩ := ends_choose _ _ (base_start h) rfl
  exact ⟨o, k, h⟩
theorem out_end {l : Mat} {s : S} (h : Valid n l) (ho : Out n l (some s)) : End l.length n s := by
  obtain ⟨k, hk⟩ := ho
  exact (run_end closed_true (p := .choose) (base_start h) trivial hk).1
/-- the entries that are not 0 -/
def diagOf (s : S) : List Int := (List.range s.t).map fun i => ent s.a i i
end
end Go.Proofs.Sm
namespace Go.Proofs.Sm
def sumN : Nat → (Nat → Int) → Int
  | 0, _ => 0
  | k + 1, f => sumN k f + f k
/-- u times l times v -/
def form (r n : Nat) (l u v : Mat) (i j : Nat) : Int := sumN n fun q => (sumN r fun p => ent u i p * ent l p q) * ent v q j
section
variable {r n : Nat} {l : Mat}
end
def skip (j q : Nat) : Nat := if q < j then q else q + 1
/-- determinant 1 or -1 -/
def Unit1 (x : Int) : Prop := x = 1 ∨ x = -1
theorem Unit1.neg {x : Int} (h : Unit1 x) : Unit1 (-x) := by
  unfold Unit1 at *; omega
section
variable {k : Nat} {m : Mat}
end
end Go.Proofs.Sm
namespace Go.Proofs.Sm
section
variable {r n k : Nat} {c : Int} {a : Mat}
end
/-- the entry k of the diagonal, 0 behind the last one -/
def dia (s : S) (i : Nat) : Int := ent s.a i i
section
variable {r n k : Nat} {c : Int} {s : S}
end
end Go.Proofs.Sm
namespace Go.Proofs.Sm
theorem length_diagOf (s : S) : (diagOf s).length = s.t := by simp [diagOf]
section
variable {r n k : Nat} {s s' : S}
end
theorem natAbs_bd {x B : Int} : (-B ≤ x ∧ x ≤ B) ↔ (x.natAbs : Int) ≤ B := by omega
theorem mul_bd {x y X Y : Int} (hx : -X ≤ x ∧ x ≤ X) (hy : -Y ≤ y ∧ y ≤ Y) : -(X * Y) ≤ x * y ∧ x * y ≤ X * Y := by
  rw [natAbs_bd] at *
  rw [Int.natAbs_mul, Int.natCast_mul]
  exact Int.mul_le_mul hx hy (by omega) (by omega)
end Go.Proofs.Sm
namespace Go.Proofs.Sm
def wr (n : Int) : Int := (n + 9223372036854775808) % 18446744073709551616 - 9223372036854775808
theorem wr_in {n : Int} (h : -9223372036854775808 ≤ n ∧ n ≤ 9223372036854775807) : wr n = n := by unfold wr; omega
/-- the product of 64 bits -/
def mulW (n : Nat) (a b : Mat) : Mat := a.map fun p => (List.range n).map fun k => wr (sumN b.length fun j => p.getD j 0 * ent b j k)
end Go.Proofs.Sm
