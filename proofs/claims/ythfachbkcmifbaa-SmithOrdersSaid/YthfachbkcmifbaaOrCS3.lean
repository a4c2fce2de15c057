/- Diagonal forms, plainly: minors, and what they say about the diagonal; Diagonal forms, plainly: the diagonal is known by the minors; Arithmetic of 64 bits: sums and products of what has been cut to 64 bits; The state of the procedure in memory: a box with three matrices; their rows lie in blocks of their own; (smith.rows).add. -/
import Derived.Test.YthfachbkcmifbaaOrCS2
import Derived.Test.YthfachbkcmifbaaOrCS1
import Derived.StillTailTactics
import Derived.RegionTactic
import Derived.BigRegion
import Derived.Outline
namespace Go.Proofs.Sm
theorem det_lin {k : Nat} (hk : k ≤ 4) (h : Nat → Nat → Int) (f g : Nat → Int) {i : Nat} (hi : i < k) (x : Int) : detE k (fun a b => if a = i then f b + x * g b else h a b) = detE k (fun a b => if a = i then f b else h a b) + x * detE k (fun a b => if a = i then g b else h a b) := by
  obtain rfl | rfl | rfl | rfl | rfl : k = 0 ∨ k = 1 ∨ k = 2 ∨ k = 3 ∨ k = 4 := by omega
  · omega
  · obtain rfl : i = 0 := by omega
    simp [det1]
  · rcases lt4 (k := i) (by omega) with rfl | rfl | rfl | rfl <;> first | omega | (simp [det2]; grind)
  · rcases lt4 (k := i) (by omega) with rfl | rfl | rfl | rfl <;> first | omega | (simp [det3]; grind)
  · rcases lt4 (k := i) (by omega) with rfl | rfl | rfl | rfl <;> first | omega | (simp [det4]; grind)
theorem det_zero {k : Nat} (hk : k ≤ 4) (f : Nat → Nat → Int) {i : Nat} (hi : i < k) (h : ∀ b, b < k → f i b = 0) : detE k f = 0 := by
  rw [det_congr (g := fun a b => if a = i then 0 * f i b else f a b) (fun a b _ hb => by
    by_cases e : a = i
    · subst e; rw [if_pos rfl, h b hb]; rfl
    · rw [if_neg e]), det_scale hk f hi, Int.zero_mul]
theorem det_dup {k : Nat} (hk : k ≤ 4) (f : Nat → Nat → Int) {i p : Nat} (hi : i < k) (hp : p < k) (hne : i ≠ p) (h : ∀ b, f i b = f p b) : detE k f = 0 := by
  have h1 := det_swR hk f hi hp hne
  have h2 : detE k (fun a b => f (sw i p a) b) = detE k f := det_congr fun a b _ _ => by
    unfold sw
    split
    · rename_i e; subst e; exact (h b).symm
    · split
      · rename_i e; subst e; exact h b
      · rfl
  omega
/-- c divides all k by k minors -/
def DT (k : Nat) (c : Int) (a : Mat) : Prop := ∀ s t : Nat → Nat, c ∣ detE k fun p q => ent a (s p) (t q)
section
variable {r n k : Nat} {c : Int} {a : Mat}
theorem dt_addR (hk : k ≤ 4) (ha : Rect a r n) {i p : Nat} (hi : i < r) (hp : p < r) (x : Int) (h : DT k c a) : DT k c (addR a i p x) := by
  intro s t
  have key : ∀ P, P ≤ k → ∀ s : Nat → Nat, c ∣ detE k fun u q => if u < P ∧ s u = i then ent a i (t q) + x * ent a p (t q) else ent a (s u) (t q) := by
    intro P
    induction P with
    | zero =>
      intro _ s
      rw [det_congr (g := fun u q => ent a (s u) (t q)) (fun u q _ _ => if_neg (by omega))]
      exact h s t
    | succ P ih =>
      intro hP s
      by_cases e : s P = i
      · have h1 := ih (by omega) s
        have h2 := ih (by omega) (fun u => if u = P then p else s u)
        have hl := det_lin hk (fun u q => if u < P ∧ s u = i then ent a i (t q) + x * ent a p (t q) else ent a (s u) (t q)) (fun q => ent a i (t q)) (fun q => ent a p (t q)) (i := P) (by omega) x
        rw [det_congr (g := fun u q => if u = P then ent a i (t q) + x * ent a p (t q) else if u < P ∧ s u = i then ent a i (t q) + x * ent a p (t q) else ent a (s u) (t q)), hl]
        · refine Int.dvd_add ?_ (Int.dvd_mul_of_dvd_right ?_)
          · rw [det_congr (g := fun u q => if u < P ∧ s u = i then ent a i (t q) + x * ent a p (t q) else ent a (s u) (t q))]
            · exact h1
            · intro u q _ _
              by_cases e2 : u = P
              · subst e2; rw [if_pos rfl, if_neg (by omega), e]
              · rw [if_neg e2]
          · rw [det_congr (g := fun u q => if u < P ∧ (if u = P then p else s u) = i then ent a i (t q) + x * ent a p (t q) else ent a (if u = P then p else s u) (t q))]
            · exact h2
            · intro u q _ _
              by_cases e2 : u = P
              · subst e2; rw [if_pos rfl, if_neg (by omega), if_pos rfl]
              · rw [if_neg e2, if_neg e2]
        · intro u q _ _
          by_cases e2 : u = P
          · subst e2; rw [if_pos ⟨by omega, e⟩, if_pos rfl]
          · rw [if_neg e2]
            by_cases e3 : u < P ∧ s u = i
            · rw [if_pos e3, if_pos ⟨by omega, e3.2⟩]
            · rw [if_neg e3, if_neg (fun hh => e3 ⟨by omega, hh.2⟩)]
      · rw [det_congr (g := fun u q => if u < P ∧ s u = i then ent a i (t q) + x * ent a p (t q) else ent a (s u) (t q))]
        · exact ih (by omega) s
        · intro u q _ _
          by_cases e3 : u < P ∧ s u = i
          · rw [if_pos e3, if_pos ⟨by omega, e3.2⟩]
          · rw [if_neg e3, if_neg (fun hh => e3 ⟨by
              rcases Nat.lt_or_ge u P with h | h
              · exact h
              · exact absurd (by rw [show P = u by omega]; exact hh.2) e, hh.2⟩)]
  have := key k (Nat.le_refl _) s
  rw [det_congr (g := fun u q => if u < k ∧ s u = i then ent a i (t q) + x * ent a p (t q) else ent a (s u) (t q))]
  · exact this
  · intro u q hu _
    rw [ent_addR ha hi hp]
    by_cases e : s u = i
    · rw [if_pos e, if_pos ⟨hu, e⟩]
    · rw [if_neg e, if_neg (fun hh => e hh.2)]
theorem addR_back (ha : Rect a r n) {i p : Nat} (hi : i < r) (hp : p < r) (hne : i ≠ p) (x : Int) : addR (addR a i p x) i p (-x) = a :=
  mat_ext (rect_addR (rect_addR ha hp x) hp _) ha fun u j _ _ => by
    rw [ent_addR (rect_addR ha hp x) hi hp]
    by_cases e : u = i
    · rw [if_pos e, ent_addR ha hi hp, ent_addR ha hi hp, if_pos rfl, if_neg (fun h => hne h.symm), e, Int.neg_mul]; omega
    · rw [if_neg e, ent_addR ha hi hp, if_neg e]
theorem neg_back (ha : Rect a r n) {i : Nat} (hi : i < r) : addR (addR a i i (-2)) i i (-2) = a :=
  mat_ext (rect_addR (rect_addR ha hi _) hi _) ha fun u j _ _ => by
    rw [ent_addR (rect_addR ha hi _) hi hi]
    by_cases e : u = i
    · rw [if_pos e, ent_addR ha hi hi, if_pos rfl, e]; omega
    · rw [if_neg e, ent_addR ha hi hi, if_neg e]
theorem swR_back (ha : Rect a r n) {i p : Nat} (hi : i < r) (hp : p < r) : swR (swR a i p) i p = a :=
  mat_ext (rect_swR (rect_swR ha hi hp) hi hp) ha fun u j _ _ => by
    rw [ent_swR (rect_swR ha hi hp) hi hp, ent_swR ha hi hp]
    congr 1
    unfold sw
    split
    · split
      · omega
      · rw [if_pos rfl]; omega
    · split
      · rw [if_pos rfl]; omega
      · rfl
theorem dt_addR_iff (hk : k ≤ 4) (ha : Rect a r n) {i p : Nat} (hi : i < r) (hp : p < r) (hne : i ≠ p) (x : Int) : DT k c (addR a i p x) ↔ DT k c a :=
  ⟨fun h => by have := dt_addR hk (rect_addR ha hp x) hi hp (-x) h; rwa [addR_back ha hi hp hne] at this, dt_addR hk ha hi hp x⟩
theorem dt_neg_iff (hk : k ≤ 4) (ha : Rect a r n) {i : Nat} (hi : i < r) : DT k c (addR a i i (-2)) ↔ DT k c a :=
  ⟨fun h => by have := dt_addR hk (rect_addR ha hi _) hi hi (-2) h; rwa [neg_back ha hi] at this, dt_addR hk ha hi hi (-2)⟩
theorem dt_swR (ha : Rect a r n) {i p : Nat} (hi : i < r) (hp : p < r) (h : DT k c a) : DT k c (swR a i p) := fun s t => by
  rw [det_congr (g := fun u q => ent a (sw i p (s u)) (t q)) (fun u q _ _ => ent_swR ha hi hp _ _)]
  exact h (fun u => sw i p (s u)) t
theorem dt_swR_iff (ha : Rect a r n) {i p : Nat} (hi : i < r) (hp : p < r) : DT k c (swR a i p) ↔ DT k c a :=
  ⟨fun h => by have := dt_swR (rect_swR ha hi hp) hi hp h; rwa [swR_back ha hi hp] at this, dt_swR ha hi hp⟩
/-- columns are the rows of the transposed matrix -/
def trM (r n : Nat) (a : Mat) : Mat := (List.range n).map fun j => (List.range r).map fun i => ent a i j
theorem rect_tr (r n : Nat) (a : Mat) : Rect (trM r n a) n r := ⟨by simp [trM], fun x hx => by
  simp only [trM, List.mem_map] at hx
  obtain ⟨i, -, rfl⟩ := hx
  simp⟩
theorem ent_tr (ha : Rect a r n) (j i : Nat) : ent (trM r n a) j i = ent a i j := by
  rcases Nat.lt_or_ge j n with hj | hj
  · rcases Nat.lt_or_ge i r with hi | hi
    · simp [trM, ent, List.getD_eq_getElem?_getD, hi, hj]
    · rw [ent_right (rect_tr r n a) hi, ent_out (i := i) (by rw [ha.1]; exact hi)]
  · rw [ent_out (by rw [(rect_tr r n a).1]; exact hj), ent_right ha hj]
theorem dt_tr (hk : k ≤ 4) (ha : Rect a r n) : DT k c (trM r n a) ↔ DT k c a := by
  constructor
  · intro h s t
    have := h t s
    rw [det_congr (g := fun p q => ent a (s q) (t p)) (fun p q _ _ => ent_tr ha _ _), det_tr hk (fun p q => ent a (s p) (t q))] at this
    exact this
  · intro h s t
    rw [det_congr (g := fun p q => ent a (t q) (s p)) (fun p q _ _ => ent_tr ha _ _), det_tr hk (fun p q => ent a (t p) (s q))]
    exact h t s
theorem dt_addC_iff (hk : k ≤ 4) (ha : Rect a r n) {i p : Nat} (hi : i < n) (hp : p < n) (hne : i ≠ p) (x : Int) : DT k c (addC a i p x) ↔ DT k c a := by
  rw [← dt_tr hk ha, ← dt_tr hk (rect_addC ha i p x), ← dt_addR_iff hk (rect_tr r n a) hi hp hne x]
  have e : trM r n (addC a i p x) = addR (trM r n a) i p x := mat_ext (rect_tr _ _ _) (rect_addR (rect_tr _ _ _) hp x) fun j u _ _ => by
    rw [ent_tr (rect_addC ha i p x), ent_addC ha hi, ent_addR (rect_tr _ _ _) hi hp, ent_tr ha, ent_tr ha, ent_tr ha]
  rw [e]
theorem dt_swC_iff (hk : k ≤ 4) (ha : Rect a r n) {i p : Nat} (hi : i < n) (hp : p < n) : DT k c (swC a i p) ↔ DT k c a := by
  rw [← dt_tr hk ha, ← dt_tr hk (rect_swC ha i p), ← dt_swR_iff (rect_tr r n a) hi hp]
  have e : trM r n (swC a i p) = swR (trM r n a) i p := mat_ext (rect_tr _ _ _) (rect_swR (rect_tr _ _ _) hi hp) fun j u _ _ => by
    rw [ent_tr (rect_swC ha i p), ent_swC ha hi hp, ent_swR (rect_tr _ _ _) hi hp, ent_tr ha]
  rw [e]
theorem closed_dt (hk : k ≤ 4) (l : Mat) : Closed r n fun a _ _ => DT k c a ↔ DT k c l :=
  ⟨fun _ _ _ x hs hi hp hne h => (dt_addR_iff hk hs.ra hi hp hne x).trans h, fun _ _ hs hi h => (dt_neg_iff hk hs.ra hi).trans h, fun _ _ _ hs hi hp h => (dt_swR_iff hs.ra hi hp).trans h,
    fun _ _ _ x hs hi hp hne h => (dt_addC_iff hk hs.ra hi hp hne x).trans h, fun _ _ _ hs hi hp h => (dt_swC_iff hk hs.ra hi hp).trans h⟩
/-- tuples are sorted -/
theorem sort_ind (hk : k ≤ 4) (P : (Nat → Nat) → Prop) (hsw : ∀ s p, p + 1 < k → P (fun u => s (sw p (p + 1) u)) → P s) (hdup : ∀ s p, p + 1 < k → s p = s (p + 1) → P s)
    (hinc : ∀ s, (∀ p, p + 1 < k → s p < s (p + 1)) → P s) : ∀ s, P s := by
  have main : ∀ N, ∀ s : Nat → Nat, 4 * s 0 + 3 * s 1 + 2 * s 2 + s 3 = N → P s := by
    intro N
    induction N using Nat.strongRecOn with
    | _ N ih =>
      intro s hs
      by_cases h : ∀ p, p + 1 < k → s p < s (p + 1)
      · exact hinc s h
      · have ⟨p, hp⟩ := Classical.not_forall.1 h
        have ⟨hp1, hp2⟩ := Classical.not_imp.1 hp
        by_cases e : s p = s (p + 1)
        · exact hdup s p hp1 e
        · refine hsw s p hp1 (ih _ ?_ _ rfl)
          obtain rfl | rfl | rfl : p = 0 ∨ p = 1 ∨ p = 2 := by omega
          all_goals
            simp [sw]
            simp at hp2 e
            omega
  exact fun s => main _ s rfl
/-- increasing tuples suffice -/
def Inc (k m : Nat) (s : Nat → Nat) : Prop := (∀ p, p + 1 < k → s p < s (p + 1)) ∧ ∀ p, p < k → s p < m
def DI (r n k : Nat) (c : Int) (a : Mat) : Prop := ∀ s t : Nat → Nat, Inc k r s → Inc k n t → c ∣ detE k fun p q => ent a (s p) (t q)
theorem rows_suffice (hk : k ≤ 4) (f : Nat → Nat → Int) (r : Nat) (hf : ∀ i, r ≤ i → ∀ q, f i q = 0) (h : ∀ s, Inc k r s → c ∣ detE k fun p q => f (s p) q) : ∀ s : Nat → Nat, c ∣ detE k fun p q => f (s p) q := by
  refine sort_ind hk (fun s => c ∣ detE k fun p q => f (s p) q) (fun s p hp hP => ?_) (fun s p hp he => ?_) (fun s hs => ?_)
  · have := det_swR hk (fun p q => f (s p) q) (i := p) (p := p + 1) (by omega) hp (by omega)
    rw [this] at hP
    exact Int.dvd_neg.1 hP
  · rw [det_dup hk _ (i := p) (p := p + 1) (by omega) hp (by omega) (fun b => by rw [he])]; exact Int.dvd_zero _
  · by_cases hb : ∀ p, p < k → s p < r
    · exact h s ⟨hs, hb⟩
    · have ⟨p, hp⟩ := Classical.not_forall.1 hb
      have ⟨hp1, hp2⟩ := Classical.not_imp.1 hp
      rw [det_zero hk (fun p q => f (s p) q) hp1 (fun b _ => hf _ (by omega) b)]; exact Int.dvd_zero _
theorem dt_of_inc (hk : k ≤ 4) (ha : Rect a r n) (h : DI r n k c a) : DT k c a := by
  intro s t
  refine rows_suffice hk (fun i q => ent a i (t q)) r (fun i hi q => ent_out (by rw [ha.1]; exact hi)) (fun s hs => ?_) s
  rw [← det_tr hk]
  refine rows_suffice hk (fun j p => ent a (s p) j) n (fun j hj p => ent_right ha hj) (fun t ht => ?_) t
  have := h s t hs ht
  rw [← det_tr hk] at this
  exact this
/-- the product of the first k entries of the diagonal -/
def prodN (d : Nat → Int) : Nat → Int
  | 0 => 1
  | k + 1 => prodN d k * d k
theorem det_diag (hk : k ≤ 4) (d : Nat → Int) : detE k (fun p q => if p = q then d p else 0) = prodN d k := by
  obtain rfl | rfl | rfl | rfl | rfl : k = 0 ∨ k = 1 ∨ k = 2 ∨ k = 3 ∨ k = 4 := by omega
  · rfl
  · simp [det1, prodN]
  · simp [det2, prodN]
  · simp [det3, prodN]; grind
  · simp [det4, prodN]; grind
theorem prodN_dvd {d e : Nat → Int} : ∀ {k : Nat}, (∀ p, p < k → d p ∣ e p) → prodN d k ∣ prodN e k
  | 0, _ => Int.dvd_refl _
  | k + 1, h => Int.mul_dvd_mul (prodN_dvd (k := k) fun p hp => h p (by omega)) (h k (by omega))
theorem inc_ge {m : Nat} {s : Nat → Nat} (h : Inc k m s) : ∀ p, p < k → p ≤ s p
  | 0, _ => Nat.zero_le _
  | p + 1, hp => by have := inc_ge h p (by omega); have := h.1 p hp; omega
theorem inc_lt {m : Nat} {s : Nat → Nat} (h : Inc k m s) {p q : Nat} (hpq : p < q) (hq : q < k) : s p < s q := by
  induction q with
  | zero => omega
  | succ q ih =>
    have h1 := h.1 q hq
    by_cases e : p = q
    · subst e; exact h1
    · have := ih (by omega) (by omega); omega
theorem det_mixed (hk : k ≤ 4) (d : Nat → Int) {m m' : Nat} {s t : Nat → Nat} (hs : Inc k m s) (ht : Inc k m' t) {p : Nat} (hp : p < k) (hbelow : ∀ q, q < p → s q = t q) (hlt : s p < t p) : detE k (fun u q => if s u = t q then d (s u) else 0) = 0 :=
  det_zero hk _ hp fun q hq => if_neg fun e => by
    rcases Nat.lt_or_ge q p with h | h
    · have h1 := hbelow q h; have h2 := inc_lt hs h hp; omega
    · by_cases e2 : q = p
      · subst e2; omega
      · have h2 := inc_lt ht (p := p) (q := q) (by omega) hq; omega
theorem dt_diag (hk : k ≤ 4) (ha : Rect a r n) (d : Nat → Int) (he : ∀ i j, ent a i j = if i = j then d i else 0) (hd : ∀ p q, p ≤ q → d p ∣ d q) : DT k c a ↔ c ∣ prodN d k := by
  constructor
  · intro h
    have := h (fun p => p) (fun p => p)
    rw [det_congr (g := fun p q => if p = q then d p else 0) (fun p q _ _ => he p q), det_diag hk] at this
    exact this
  · intro h
    refine dt_of_inc hk ha fun s t hs ht => ?_
    rw [det_congr (g := fun u q => if s u = t q then d (s u) else 0) (fun p q _ _ => he _ _)]
    by_cases e : ∀ p, p < k → s p = t p
    · rw [det_congr (g := fun u q => if u = q then d (s u) else 0), det_diag hk (fun u => d (s u))]
      · exact Int.dvd_trans h (prodN_dvd fun p hp => hd _ _ (inc_ge hs p hp))
      · intro u q hu hq
        by_cases e2 : u = q
        · subst e2; rw [if_pos (e u hu), if_pos rfl]
        · rw [if_neg e2, if_neg]
          rw [← e q hq]
          rcases Nat.lt_or_ge u q with h1 | h1
          · have := inc_lt hs h1 hq; omega
          · have := inc_lt hs (p := q) (q := u) (by omega) hu; omega
    · -- the first place where they differ
      have hex : ∃ p, p < k ∧ s p ≠ t p ∧ ∀ q, q < p → s q = t q := by
        have ⟨p, hp⟩ := Classical.not_forall.1 e
        have ⟨hp1, hp2⟩ := Classical.not_imp.1 hp
        clear e hp
        induction p using Nat.strongRecOn with
        | _ p ih =>
          by_cases hall : ∀ q, q < p → s q = t q
          · exact ⟨p, hp1, hp2, hall⟩
          · have ⟨q, hq⟩ := Classical.not_forall.1 hall
            have ⟨hq1, hq2⟩ := Classical.not_imp.1 hq
            exact ih q hq1 (by omega) hq2
      obtain ⟨p, hp, hne, hb⟩ := hex
      rcases Nat.lt_or_ge (s p) (t p) with hl | hl
      · rw [det_mixed hk d hs ht hp hb hl]; exact Int.dvd_zero _
      · rw [← det_tr hk, det_congr (g := fun u q => if t u = s q then d (t u) else 0), det_mixed hk d ht hs hp (fun q hq => (hb q hq).symm) (by omega)]
        · exact Int.dvd_zero _
        · intro u q _ _
          by_cases e2 : t u = s q
          · rw [if_pos e2, if_pos e2.symm, e2]
          · rw [if_neg e2, if_neg (fun h => e2 h.symm)]
end
/-- the entry k of the diagonal, 0 behind the last one -/
def dia (s : S) (i : Nat) : Int := ent s.a i i
section
variable {r n k : Nat} {c : Int} {s : S}
theorem end_diag (h : End r n s) : ∀ i j, ent s.a i j = if i = j then dia s i else 0 := fun i j => by
  by_cases e : i = j
  · subst e; rw [if_pos rfl]; rfl
  · rw [if_neg e]
    by_cases c : i < s.t ∨ j < s.t
    · exact h.diag i j e c
    · exact h.zero i j (by omega) (by omega)
theorem end_dvd (h : End r n s) : ∀ p q, p ≤ q → dia s p ∣ dia s q := fun p q hpq => by
  rcases Nat.lt_or_ge p s.t with h1 | h1
  · exact h.dvd p q q h1 hpq hpq
  · unfold dia; rw [h.zero q q (by omega) (by omega)]; exact Int.dvd_zero _
/-- the minors of a relation matrix and the entries of its diagonal form -/
theorem minors_law {l : Mat} (hk : k ≤ 4) (hv : Valid n l) (ho : Out n l (some s)) : DT k c l ↔ c ∣ prodN (dia s) k := by
  have h := out_end hv ho
  have hc := out_closed hv ho (closed_dt (c := c) hk l) Iff.rfl
  rw [← hc]
  exact dt_diag hk h.sh.ra _ (end_diag h) (end_dvd h)
end
end Go.Proofs.Sm
namespace Go.Proofs.Sm
theorem length_diagOf (s : S) : (diagOf s).length = s.t := by simp [diagOf]
theorem diagOf_getD (s : S) {i : Nat} (h : i < s.t) : (diagOf s).getD i 0 = dia s i := by simp [diagOf, dia, List.getD_eq_getElem?_getD, h]
section
variable {r n k : Nat} {s s' : S}
theorem prod_pos (h : End r n s) : ∀ {k}, k ≤ s.t → 0 < prodN (dia s) k
  | 0, _ => by show (0 : Int) < 1; omega
  | k + 1, hk => Int.mul_pos (prod_pos h (k := k) (by omega)) (h.pos k hk)
theorem prod_zero (h : End r n s) : ∀ {k}, s.t < k → prodN (dia s) k = 0
  | 0, hk => by omega
  | k + 1, hk => by
    show prodN (dia s) k * dia s k = 0
    have e : dia s k = 0 := h.zero k k (by omega) (by omega)
    rw [e, Int.mul_zero]
theorem prod_nonneg (h : End r n s) (k : Nat) : 0 ≤ prodN (dia s) k := by
  rcases Nat.lt_or_ge s.t k with h1 | h1
  · rw [prod_zero h h1]; exact Int.le_refl _
  · exact Int.le_of_lt (prod_pos h h1)
/-- equal divisors, equal numbers -/
theorem eq_of_dvd {x y : Int} (hx : 0 ≤ x) (hy : 0 ≤ y) (h : ∀ c : Int, c ∣ x ↔ c ∣ y) : x = y :=
  Int.dvd_antisymm hx hy ((h x).1 (Int.dvd_refl _)) ((h y).2 (Int.dvd_refl _))
/-- two ends with the same products -/
theorem diag_eq (h : End r n s) (h' : End r n s') (hp : ∀ k, k ≤ r → k ≤ n → prodN (dia s) k = prodN (dia s') k) : diagOf s = diagOf s' := by
  have ht : s.t = s'.t := by
    rcases Nat.lt_trichotomy s.t s'.t with h1 | h1 | h1
    · have := hp s'.t h'.tr h'.tn
      rw [prod_zero h h1] at this
      have := prod_pos h' (Nat.le_refl s'.t); omega
    · exact h1
    · have := hp s.t h.tr h.tn
      rw [prod_zero h' h1] at this
      have := prod_pos h (Nat.le_refl s.t); omega
  have hd : ∀ i, i < s.t → dia s i = dia s' i := fun i hi => by
    have h1 := h.tr
    have h2 := h.tn
    have e1 := hp i (by omega) (by omega)
    have e2 : prodN (dia s) i * dia s i = prodN (dia s') i * dia s' i := hp (i + 1) (by omega) (by omega)
    rw [← e1] at e2
    have hpos := prod_pos h (k := i) (by omega)
    exact Int.eq_of_mul_eq_mul_left (by omega) e2
  unfold diagOf
  rw [← ht]
  refine List.map_congr_left fun i hi => ?_
  exact hd i (List.mem_range.1 hi)
/-- matrices with the same divisors of minors have the same diagonal -/
theorem diag_same {l l' : Mat} (hr : l.length = r) (hr' : l'.length = r) (h4 : r ≤ 4) (hv : Valid n l) (hv' : Valid n l') (ho : Out n l (some s)) (ho' : Out n l' (some s')) (h : ∀ k c, k ≤ 4 → (DT k c l ↔ DT k c l')) : diagOf s = diagOf s' := by
  have e := out_end hv ho
  have e' := out_end hv' ho'
  rw [hr] at e
  rw [hr'] at e'
  refine diag_eq e e' fun k hk _ => eq_of_dvd (prod_nonneg e k) (prod_nonneg e' k) fun c => ?_
  rw [← minors_law (by omega) hv ho, ← minors_law (by omega) hv' ho']
  exact h k c (by omega)
/-- the determinant of a square matrix -/
theorem det_law {l : Mat} (h4 : n ≤ 4) (hl : l.length = n) (hv : Valid n l) (ho : Out n l (some s)) : ((detE n (ent l)).natAbs : Int) = prodN (dia s) n := by
  have e := out_end hv ho
  refine eq_of_dvd (by omega) (prod_nonneg e n) fun c => ?_
  rw [← minors_law h4 hv ho, Int.dvd_natAbs]
  have hR : Rect l n n := ⟨hl, hv.row⟩
  constructor
  · intro h
    refine dt_of_inc h4 hR fun s' t hs ht => ?_
    have key : ∀ s : Nat → Nat, Inc n n s → ∀ p, p < n → s p = p := fun s hs => by
      have low := inc_ge hs
      have high : ∀ d p, p + d + 1 = n → s p + d + 1 ≤ n := by
        intro d
        induction d with
        | zero => intro p hp; have := hs.2 p (by omega); omega
        | succ d ih => intro p hp; have := ih (p + 1) (by omega); have := hs.1 p (by omega); omega
      intro p hp
      have := low p hp
      have := high (n - p - 1) p (by omega)
      omega
    rw [det_congr (g := ent l) fun i j hi hj => by rw [key s' hs i hi, key t ht j hj]]
    exact h
  · intro h
    exact h (fun p => p) (fun p => p)
end
/-- bounds of determinants -/
theorem sumN_bound : ∀ {k : Nat} {f : Nat → Int} {B : Int}, (∀ i, i < k → -B ≤ f i ∧ f i ≤ B) → -(k * B) ≤ sumN k f ∧ sumN k f ≤ k * B
  | 0, _, _, _ => by simp [sumN]
  | k + 1, f, B, h => by
    have h1 := sumN_bound (k := k) (f := f) (B := B) fun i hi => h i (by omega)
    have h2 := h k (by omega)
    rw [sumN_succ]
    have e : ((k + 1 : Nat) : Int) * B = k * B + B := by rw [Int.natCast_add, Int.add_mul]; simp
    rw [e]; omega
theorem natAbs_bd {x B : Int} : (-B ≤ x ∧ x ≤ B) ↔ (x.natAbs : Int) ≤ B := by omega
theorem mul_bd {x y X Y : Int} (hx : -X ≤ x ∧ x ≤ X) (hy : -Y ≤ y ∧ y ≤ Y) : -(X * Y) ≤ x * y ∧ x * y ≤ X * Y := by
  rw [natAbs_bd] at *
  rw [Int.natAbs_mul, Int.natCast_mul]
  exact Int.mul_le_mul hx hy (by omega) (by omega)
def detB : Nat → Int
  | 0 => 1
  | k + 1 => ((k + 1 : Nat) : Int) * (6 * detB k)
theorem det_bound : ∀ {k : Nat} {f : Nat → Nat → Int}, (∀ i j, -6 ≤ f i j ∧ f i j ≤ 6) → -(detB k) ≤ detE k f ∧ detE k f ≤ detB k
  | 0, _, _ => by show -(1 : Int) ≤ 1 ∧ (1 : Int) ≤ 1; omega
  | k + 1, f, h => by
    have h1 := fun j => det_bound (k := k) (f := fun i q => f (i + 1) (skip j q)) fun i q => h _ _
    refine sumN_bound fun j _ => ?_
    refine mul_bd ?_ (h1 j)
    have := h 0 j
    unfold sgn
    split <;> omega
end Go.Proofs.Sm
namespace Go.Proofs.Sm
def wr (n : Int) : Int := (n + 9223372036854775808) % 18446744073709551616 - 9223372036854775808
theorem wr_in {n : Int} (h : -9223372036854775808 ≤ n ∧ n ≤ 9223372036854775807) : wr n = n := by unfold wr; omega
theorem wr_ex (n : Int) : ∃ q, wr n = n + 18446744073709551616 * q := ⟨-((n + 9223372036854775808) / 18446744073709551616), by unfold wr; omega⟩
theorem wr_shift (n q : Int) : wr (n + 18446744073709551616 * q) = wr n := by unfold wr; omega
theorem wr_add_l (a b : Int) : wr (wr a + b) = wr (a + b) := by unfold wr; omega
theorem wr_add_r (a b : Int) : wr (a + wr b) = wr (a + b) := by unfold wr; omega
theorem wr_mul_l (a b : Int) : wr (wr a * b) = wr (a * b) := by
  obtain ⟨q, h⟩ := wr_ex a
  rw [h, Int.add_mul, Int.mul_assoc, wr_shift]
theorem wr_mul_r (a b : Int) : wr (a * wr b) = wr (a * b) := by rw [Int.mul_comm, wr_mul_l, Int.mul_comm]
/-- a term of a determinant of 64 bits -/
theorem wr_det_step (k j : Nat) (f : Nat → Nat → Int) : wr (wr (sumN j fun j => sgn j * f 0 j * detE k fun i q => f (i + 1) (skip j q)) + wr (wr (sgn j * f 0 j) * wr (detE k fun i q => f (i + 1) (skip j q)))) = wr (sumN (j + 1) fun j => sgn j * f 0 j * detE k fun i q => f (i + 1) (skip j q)) := by
  rw [wr_mul_l, wr_mul_r, wr_add_l, wr_add_r, sumN_succ]
/-- the product of 64 bits -/
def mulW (n : Nat) (a b : Mat) : Mat := a.map fun p => (List.range n).map fun k => wr (sumN b.length fun j => p.getD j 0 * ent b j k)
end Go.Proofs.Sm
namespace Go.Proofs
open Go.RowKit Go.Shelf Go.Proofs.Sm
/-- block b holds the numbers x (and may be longer) -/
def XsAt (w : World) (b : Nat) (x : List Int) : Prop := ∃ C : Array Value, w.heap[b]? = some (.cells C 3 (0, 0)) ∧ x.length ≤ C.size ∧ ∀ k, k < x.length → C[k]? = some (.int .i64 (x.getD k 0))
section
variable {w w' : World} {b k : Nat} {x y : List Int}
theorem XsAt.lt (h : XsAt w b x) : b < w.heap.size := by obtain ⟨C, hC, -⟩ := h; exact (Array.getElem?_eq_some_iff.1 hC).1
theorem XsAt.keep (h : XsAt w b x) (hk : w'.heap[b]? = w.heap[b]?) : XsAt w' b x := by
  obtain ⟨C, hC, h2, h3⟩ := h
  exact ⟨C, hk.trans hC, h2, h3⟩
theorem XsAt.below (h : XsAt w b x) (hb : Below w.heap.size w w') : XsAt w' b x := h.keep (hb.block _ h.lt)
theorem XsAt.grown {row : Option Nat} (h : XsAt w b x) (hg : w.grownBy w' row) (hr : row ≠ some b) : XsAt w' b x := h.keep (hg.block _ h.lt (Ne.symm hr))
theorem XsAt.cell (h : XsAt w b x) (hk : k < x.length) : w.cell? ⟨b, k, none⟩ = some (.int .i64 (x.getD k 0)) := by
  obtain ⟨C, hC, -, h3⟩ := h
  rw [cell_of_row _ _ _ _ _ _ hC]; exact h3 k hk
theorem XsAt.frozen (h : XsAt w b x) (k : Nat) : w.frozen? ⟨b, k, none⟩ = false := by
  obtain ⟨C, hC, -⟩ := h
  simp [World.frozen?, hC]
theorem XsAt.set (h : XsAt w b x) (hk : k < x.length) (v : Int) : XsAt (w.setCell ⟨b, k, none⟩ (.int .i64 v)) b (x.set k v) := by
  obtain ⟨C, hC, h2, h3⟩ := h
  refine ⟨C.setIfInBounds k (.int .i64 v), by simp [World.setCell, Array.getElem?_modify, hC], by simpa using h2, fun j hj => ?_⟩
  have hj' : j < x.length := by simpa using hj
  rw [getD_set_]
  by_cases e : k = j
  · subst e
    rw [if_pos ⟨rfl, hk⟩]
    have : k < C.size := by omega
    simp [this]
  · rw [if_neg (fun hh => e hh.1), Array.getElem?_setIfInBounds_ne e]
    exact h3 j hj'
theorem XsAt.ints (h : XsAt w b x) {n cap : Nat} (hn : x.length = n) (hc : n ≤ cap) (hm : cap ≤ 9223372036854775807) (hf : Fits x) : IntsAt w (.slice (some ⟨b, 0, none⟩) n cap) x := by
  refine ⟨⟨_, n, cap, rfl, by simp [_root_.Go.Proofs.ints, hn], hc, by simpa [maxLen] using hm, fun _ => ⟨b, 0, rfl, fun j v hv => ?_⟩⟩, hf⟩
  have hj : j < x.length := by have := (List.getElem?_eq_some_iff.1 hv).1; simpa [_root_.Go.Proofs.ints] using this
  rw [Nat.zero_add, h.cell hj, ← hv]
  simp [_root_.Go.Proofs.ints, hj, List.getD_eq_getElem?_getD]
theorem grown_setCell (w : World) (b k : Nat) (v : Value) : w.grownBy (w.setCell ⟨b, k, none⟩ v) (some b) :=
  ⟨rfl, rfl, rfl, by simp [World.setCell], fun i _ hne => Below.heap_setCell w ⟨b, k, none⟩ v i (fun e => hne (by rw [e]))⟩
end
/-- the k-th of the matrices a, u, v -/
def Sm.S.mat (s : S) : Nat → Mat
  | 0 => s.a
  | 1 => s.u
  | _ => s.v
def Sm.S.setMat (s : S) : Nat → Mat → S
  | 0, m => { s with a := m }
  | 1, m => { s with u := m }
  | _, m => { s with v := m }
theorem mat_setMat (s : S) (m : Mat) {k j : Nat} (hk : k < 3) (hj : j < 3) : (s.setMat k m).mat j = if k = j then m else s.mat j := by
  obtain rfl | rfl | rfl : k = 0 ∨ k = 1 ∨ k = 2 := by omega
  all_goals
    obtain rfl | rfl | rfl : j = 0 ∨ j = 1 ∨ j = 2 := by omega
    all_goals rfl
theorem setMat_setMat (s : S) (m m' : Mat) (k : Nat) : (s.setMat k m).setMat k m' = s.setMat k m' := by
  rcases k with _ | _ | k <;> rfl
theorem setMat_self (s : S) (k : Nat) : s.setMat k (s.mat k) = s := by
  rcases k with _ | _ | k <;> rfl
theorem mat_set_self (s : S) (m : Mat) (k : Nat) : (s.setMat k m).mat k = m := by
  rcases k with _ | _ | k <;> rfl
/-- row i of a matrix with entry j written -/
def put (m : Mat) (i j : Nat) (z : Int) : Mat := m.set i ((m.getD i []).set j z)
theorem length_put (m : Mat) (i j : Nat) (z : Int) : (put m i j z).length = m.length := by simp [put]
theorem row_put (m : Mat) (i j p : Nat) (z : Int) : (put m i j z).getD p [] = if i = p ∧ i < m.length then (m.getD i []).set j z else m.getD p [] := getD_set_ _ _ _ _ _
theorem rowlen_put (m : Mat) (i j p : Nat) (z : Int) : ((put m i j z).getD p []).length = (m.getD p []).length := by
  rw [row_put]
  split
  · rename_i h; rw [List.length_set, h.1]
  · rfl
structure WkM (T b base : Nat) (w : World) (s : S) (x : Value) (vs : Nat → Value) (bl cs : Nat → Nat → Nat) : Prop where
  ty : T ≠ 3 ∧ T ≠ 25
  bb : base ≤ b
  box : w.heap[b]? = some (.cells #[vs 0, vs 1, vs 2, x] T (0, 0))
  out : ∀ k, k < 3 → w.ownsRow base 25 1 (vs k) (s.mat k).length ((List.range (s.mat k).length).map fun i => .slice (some ⟨bl k i, 0, none⟩) ((s.mat k).getD i []).length (cs k i))
  row : ∀ k i, k < 3 → i < (s.mat k).length → base ≤ bl k i ∧ XsAt w (bl k i) ((s.mat k).getD i []) ∧ ((s.mat k).getD i []).length ≤ cs k i ∧ cs k i ≤ 9223372036854775807
  inj : ∀ k i k' i', k < 3 → k' < 3 → i < (s.mat k).length → i' < (s.mat k').length → bl k i = bl k' i' → k = k' ∧ i = i'
  sep : ∀ k k', k < 3 → k' < 3 → k ≠ k' → ∀ g, (vs k).ownBlock = some g → (vs k').ownBlock ≠ some g
def Wk (T b base : Nat) (w : World) (s : S) (x : Value) : Prop := ∃ vs bl cs, WkM T b base w s x vs bl cs
section
variable {T b base : Nat} {w w' : World} {s : S} {x : Value} {vs : Nat → Value} {bl cs : Nat → Nat → Nat}
theorem WkM.keep (h : WkM T b base w s x vs bl cs) (hk : ∀ k, base ≤ k → k < w.heap.size → w'.heap[k]? = w.heap[k]?) : WkM T b base w' s x vs bl cs := by
  refine ⟨h.ty, h.bb, (hk b h.bb (Array.getElem?_eq_some_iff.1 h.box).1).trans h.box, fun k hk3 => owns_keep (h.out k hk3) fun r hr => ?_, fun k i hk3 hi => ?_, h.inj, h.sep⟩
  · obtain ⟨a, C, hC⟩ := owns_block (h.out k hk3) r hr
    exact hk r a (Array.getElem?_eq_some_iff.1 hC).1
  · obtain ⟨a, b', c⟩ := h.row k i hk3 hi
    exact ⟨a, b'.keep (hk _ a b'.lt), c⟩
theorem WkM.below (h : WkM T b base w s x vs bl cs) (hb : Below w.heap.size w w') : WkM T b base w' s x vs bl cs := h.keep fun k _ hk => hb.block k hk
theorem Wk.below (h : Wk T b base w s x) (hb : Below w.heap.size w w') : Wk T b base w' s x := let ⟨vs, bl, cs, h⟩ := h; ⟨vs, bl, cs, h.below hb⟩
theorem WkM.drewN (h : WkM T b base w s x vs bl cs) (n : Nat) : WkM T b base (w.drewN n) s x vs bl cs := h.keep fun _ _ _ => rfl
theorem Wk.drewN (h : Wk T b base w s x) (n : Nat) : Wk T b base (w.drewN n) s x := let ⟨vs, bl, cs, h⟩ := h; ⟨vs, bl, cs, h.drewN n⟩
theorem WkM.lt (h : WkM T b base w s x vs bl cs) : b < w.heap.size := (Array.getElem?_eq_some_iff.1 h.box).1
theorem WkM.cells (h : WkM T b base w s x vs bl cs) : w.cell? ⟨b, 0, none⟩ = some (vs 0) ∧ w.cell? ⟨b, 1, none⟩ = some (vs 1) ∧ w.cell? ⟨b, 2, none⟩ = some (vs 2) ∧ w.cell? ⟨b, 3, none⟩ = some x ∧ ∀ k, w.frozen? ⟨b, k, none⟩ = false :=
  ⟨by rw [cell_of_row _ _ _ _ _ _ h.box]; rfl, by rw [cell_of_row _ _ _ _ _ _ h.box]; rfl, by rw [cell_of_row _ _ _ _ _ _ h.box]; rfl, by rw [cell_of_row _ _ _ _ _ _ h.box]; rfl, fun k => by simp [World.frozen?, h.box]⟩
/-- the matrix k as a value -/
theorem WkM.form (h : WkM T b base w s x vs bl cs) {k : Nat} (hk : k < 3) : ∃ A c, vs k = .slice A (s.mat k).length c ∧ (s.mat k).length ≤ c ∧ c ≤ 9223372036854775807 := by
  rcases (h.out k hk).2 with ⟨e, e2⟩ | ⟨g, cap, cur, e, -, -, h1, h2, -⟩
  · exact ⟨none, 0, by rw [e, e2], by omega, by omega⟩
  · exact ⟨_, cap, e, h1, by simpa [maxLen] using h2⟩
/-- reading a row -/
theorem WkM.row_at (h : WkM T b base w s x vs bl cs) {k i : Nat} (hk : k < 3) (hi : i < (s.mat k).length) : ∃ g c, vs k = .slice (some ⟨g, 0, none⟩) (s.mat k).length c ∧ w.cell? ⟨g, i, none⟩ = some (.slice (some ⟨bl k i, 0, none⟩) ((s.mat k).getD i []).length (cs k i)) ∧ w.frozen? ⟨g, i, none⟩ = false ∧ base ≤ g := by
  obtain ⟨hl, ho⟩ := h.out k hk
  rcases ho with ⟨-, h0⟩ | ⟨g, cap, cur, e, hb, hC, h1, hm, hs, ht⟩
  · omega
  · refine ⟨g, cap, e, ?_, by simp [World.frozen?, hC], hb⟩
    rw [cell_of_row _ _ _ _ _ _ hC]
    have h2 : (cur.toList.take ((s.mat k).length * 1))[i]? = ((List.range (s.mat k).length).map fun i => Value.slice (some ⟨bl k i, 0, none⟩) ((s.mat k).getD i []).length (cs k i))[i]? := by rw [ht]
    rw [List.getElem?_take, if_pos (by omega)] at h2
    simpa [hi] using h2
theorem WkM.ent_at (h : WkM T b base w s x vs bl cs) {k i j : Nat} (hk : k < 3) (hi : i < (s.mat k).length) (hj : j < ((s.mat k).getD i []).length) : w.cell? ⟨bl k i, j, none⟩ = some (.int .i64 (ent (s.mat k) i j)) ∧ w.frozen? ⟨bl k i, j, none⟩ = false :=
  let ⟨_, hX, _⟩ := h.row k i hk hi; ⟨hX.cell hj, hX.frozen j⟩
theorem WkM.row_ty (h : WkM T b base w s x vs bl cs) {k i : Nat} (hk : k < 3) (hi : i < (s.mat k).length) : ∃ C, w.heap[bl k i]? = some (.cells C 3 (0, 0)) := by
  obtain ⟨-, ⟨C, hC, -⟩, -⟩ := h.row k i hk hi
  exact ⟨C, hC⟩
/-- writing an entry -/
theorem WkM.set (h : WkM T b base w s x vs bl cs) {k i j : Nat} (hk : k < 3) (hi : i < (s.mat k).length) (hj : j < ((s.mat k).getD i []).length) (z : Int) : WkM T b base (w.setCell ⟨bl k i, j, none⟩ (.int .i64 z)) (s.setMat k (put (s.mat k) i j z)) x vs bl cs := by
  have hne : ∀ p, p ≠ bl k i → (w.setCell ⟨bl k i, j, none⟩ (.int .i64 z)).heap[p]? = w.heap[p]? := fun p hp => Below.heap_setCell w ⟨bl k i, j, none⟩ _ p hp
  obtain ⟨C, hC⟩ := h.row_ty hk hi
  have hml : ∀ k', k' < 3 → ((s.setMat k (put (s.mat k) i j z)).mat k').length = (s.mat k').length := fun k' hk' => by
    rw [mat_setMat s _ hk hk']
    split
    · rename_i e; subst e; exact length_put _ _ _ _
    · rfl
  have hmr : ∀ k' p, k' < 3 → (((s.setMat k (put (s.mat k) i j z)).mat k').getD p []).length = ((s.mat k').getD p []).length := fun k' p hk' => by
    rw [mat_setMat s _ hk hk']
    split
    · rename_i e; subst e; exact rowlen_put _ _ _ _ _
    · rfl
  refine ⟨h.ty, h.bb, (hne b fun e => ?_).trans h.box, fun k' hk' => ?_, fun k' p hk' hp => ?_, fun k1 i1 k2 i2 h1 h2 h3 h4 => h.inj k1 i1 k2 i2 h1 h2 (by rw [hml k1 h1] at h3; exact h3) (by rw [hml k2 h2] at h4; exact h4), h.sep⟩
  · rw [← e, h.box] at hC
    injection hC with h5
    injection h5 with _ h6 _
    exact h.ty.1 h6
  · simp only [hml k' hk', hmr k' _ hk']
    refine owns_keep (h.out k' hk') fun r hr => hne r fun e => ?_
    obtain ⟨-, C', hC'⟩ := owns_block (h.out k' hk') r hr
    rw [e, hC] at hC'
    injection hC' with h5
    injection h5 with _ h6 _
    exact absurd h6 (by decide)
  · rw [hml k' hk'] at hp
    obtain ⟨a, b', d⟩ := h.row k' p hk' hp
    rw [hmr k' p hk']
    refine ⟨a, ?_, d⟩
    by_cases e : k = k' ∧ i = p
    · obtain ⟨rfl, rfl⟩ := e
      rw [mat_set_self, row_put, if_pos ⟨rfl, hi⟩]
      exact b'.set hj z
    · have e1 : ((s.setMat k (put (s.mat k) i j z)).mat k').getD p [] = (s.mat k').getD p [] := by
        rw [mat_setMat s _ hk hk']
        split
        · rename_i e2; subst e2; rw [row_put, if_neg (fun hh => e ⟨rfl, hh.1⟩)]
        · rfl
      rw [e1]
      exact b'.keep (hne _ fun e2 => by
        obtain ⟨q1, q2⟩ := h.inj k' p k i hk' hk hp hi e2
        exact e ⟨q1.symm, q2.symm⟩)
/-- writing the fourth cell of the box -/
theorem WkM.set3 (h : WkM T b base w s x vs bl cs) (y : Value) : WkM T b base (w.setCell ⟨b, 3, none⟩ y) s y vs bl cs := by
  have hne : ∀ p, p ≠ b → (w.setCell ⟨b, 3, none⟩ y).heap[p]? = w.heap[p]? := fun p hp => Below.heap_setCell w ⟨b, 3, none⟩ _ p hp
  refine ⟨h.ty, h.bb, by simp [World.setCell, Array.getElem?_modify, h.box], fun k hk => owns_keep (h.out k hk) fun r hr => hne r fun e => ?_, fun k i hk hi => ?_, h.inj, h.sep⟩
  · obtain ⟨-, C, hC⟩ := owns_block (h.out k hk) r hr
    rw [e, h.box] at hC
    injection hC with h5
    injection h5 with _ h6 _
    exact h.ty.2 h6
  · obtain ⟨a, b', d⟩ := h.row k i hk hi
    refine ⟨a, b'.keep (hne _ fun e => ?_), d⟩
    obtain ⟨C, hC⟩ := h.row_ty hk hi
    rw [e, h.box] at hC
    injection hC with h5
    injection h5 with _ h6 _
    exact h.ty.1 h6
/-- only the matrices are read of s -/
theorem WkM.of (h : WkM T b base w s x vs bl cs) {s' : S} (ha : s'.a = s.a) (hu : s'.u = s.u) (hv : s'.v = s.v) : WkM T b base w s' x vs bl cs := by
  have e : ∀ k, s'.mat k = s.mat k := fun k => by rcases k with _ | _ | k <;> assumption
  exact ⟨h.ty, h.bb, h.box, fun k hk => by rw [e k]; exact h.out k hk, fun k i hk hi => by rw [e k] at hi ⊢; exact h.row k i hk hi, fun k i k' i' h1 h2 h3 h4 => h.inj k i k' i' h1 h2 (by rw [← e k]; exact h3) (by rw [← e k']; exact h4), h.sep⟩
/-- an element of an owned row of values is written -/
theorem owns_set {e n : Nat} {v : Value} {xs : List Value} (h : w.ownsRow base e 1 v n xs) {g i : Nat} (hg : v.ownBlock = some g) (y : Value) : (w.setCell ⟨g, i, none⟩ y).ownsRow base e 1 v n (xs.set i y) := by
  obtain ⟨hl, h⟩ := h
  rcases h with ⟨rfl, -⟩ | ⟨g', cap, cur, rfl, hb, hc, hn, hm, hs, ht⟩
  · cases hg
  · obtain rfl : g' = g := Option.some.inj hg
    refine ⟨by simpa using hl, .inr ⟨g', cap, cur.setIfInBounds i y, by simp, hb, by simp [World.setCell, Array.getElem?_modify, hc], by simpa using hn, hm, by simpa using hs, ?_⟩⟩
    rw [Array.toList_setIfInBounds, List.take_set, ht]
/-- two rows change places -/
theorem WkM.swap (h : WkM T b base w s x vs bl cs) {k i j g : Nat} (hk : k < 3) (hi : i < (s.mat k).length) (hj : j < (s.mat k).length) (hg : (vs k).ownBlock = some g) :
    WkM T b base ((w.setCell ⟨g, i, none⟩ (.slice (some ⟨bl k j, 0, none⟩) ((s.mat k).getD j []).length (cs k j))).setCell ⟨g, j, none⟩ (.slice (some ⟨bl k i, 0, none⟩) ((s.mat k).getD i []).length (cs k i))) (s.setMat k (swR (s.mat k) i j)) x vs
      (fun k' p => if k' = k then bl k (sw i j p) else bl k' p) (fun k' p => if k' = k then cs k (sw i j p) else cs k' p) := by
  obtain ⟨hbg, Cg, hCg⟩ := owns_block (h.out k hk) g hg
  have hne : ∀ p, p ≠ g → ((w.setCell ⟨g, i, none⟩ (.slice (some ⟨bl k j, 0, none⟩) ((s.mat k).getD j []).length (cs k j))).setCell ⟨g, j, none⟩ (.slice (some ⟨bl k i, 0, none⟩) ((s.mat k).getD i []).length (cs k i))).heap[p]? = w.heap[p]? := fun p hp =>
    (Below.heap_setCell _ ⟨g, j, none⟩ _ p hp).trans (Below.heap_setCell w ⟨g, i, none⟩ _ p hp)
  have hlen : (swR (s.mat k) i j).length = (s.mat k).length := by simp [swR]
  have hrow : ∀ p, (swR (s.mat k) i j).getD p [] = (s.mat k).getD (sw i j p) [] := fun p => by
    unfold swR sw
    rw [getD_set_, getD_set_, List.length_set]
    by_cases e : j = p
    · subst e
      rw [if_pos ⟨rfl, hj⟩]
      by_cases e2 : j = i
      · rw [if_pos e2, e2]
      · rw [if_neg e2, if_pos rfl]
    · rw [if_neg (fun hh => e hh.1)]
      by_cases e2 : i = p
      · rw [if_pos ⟨e2, hi⟩, if_pos e2.symm]
      · rw [if_neg (fun hh => e2 hh.1), if_neg (fun hh => e2 hh.symm), if_neg (fun hh => e hh.symm)]
  have hml : ∀ k', k' < 3 → ((s.setMat k (swR (s.mat k) i j)).mat k').length = (s.mat k').length := fun k' hk' => by
    rw [mat_setMat s _ hk hk']
    split
    · rename_i e; subst e; exact hlen
    · rfl
  have hswl : ∀ p, p < (s.mat k).length → sw i j p < (s.mat k).length := fun p hp => sw_bd hi hj hp
  have hinj : ∀ p q, sw i j p = sw i j q → p = q := fun p q e => by
    unfold sw at e
    split at e <;> split at e <;> first | omega | (split at e <;> first | omega | (split at e <;> omega))
  refine ⟨h.ty, h.bb, (hne b fun e => ?_).trans h.box, fun k' hk' => ?_, fun k' p hk' hp => ?_, fun k1 i1 k2 i2 h1 h2 h3 h4 e => ?_, h.sep⟩
  · rw [← e, h.box] at hCg
    injection hCg with h5
    injection h5 with _ h6 _
    exact h.ty.2 h6
  · by_cases e : k = k'
    · subst e
      rw [mat_set_self, hlen]
      have h2 := owns_set (i := j) (owns_set (i := i) (h.out k hk) hg (.slice (some ⟨bl k j, 0, none⟩) ((s.mat k).getD j []).length (cs k j))) hg (.slice (some ⟨bl k i, 0, none⟩) ((s.mat k).getD i []).length (cs k i))
      have e2 : ((((List.range (s.mat k).length).map fun i => Value.slice (some ⟨bl k i, 0, none⟩) ((s.mat k).getD i []).length (cs k i)).set i (.slice (some ⟨bl k j, 0, none⟩) ((s.mat k).getD j []).length (cs k j))).set j (.slice (some ⟨bl k i, 0, none⟩) ((s.mat k).getD i []).length (cs k i))) =
          (List.range (s.mat k).length).map fun p => Value.slice (some ⟨if k = k then bl k (sw i j p) else bl k p, 0, none⟩) ((swR (s.mat k) i j).getD p []).length (if k = k then cs k (sw i j p) else cs k p) := by
        apply List.ext_getElem (by simp)
        intro p hp1 hp2
        simp only [List.length_set, List.length_map, List.length_range] at hp1
        rw [List.getElem_set, List.getElem_set]
        simp only [List.getElem_map, List.getElem_range, hrow p, if_true]
        unfold sw
        by_cases e3 : j = p
        · subst e3
          rw [if_pos rfl]
          by_cases e4 : j = i
          · rw [if_pos e4, e4]
          · rw [if_neg e4, if_pos rfl]
        · rw [if_neg e3]
          by_cases e4 : i = p
          · rw [if_pos e4, if_pos e4.symm]
          · rw [if_neg e4, if_neg (fun h => e4 h.symm), if_neg (fun h => e3 h.symm)]
      rw [← e2]
      exact h2
    · have e1 : (s.setMat k (swR (s.mat k) i j)).mat k' = s.mat k' := by rw [mat_setMat s _ hk hk', if_neg e]
      have e' : k' ≠ k := fun hh => e hh.symm
      simp only [e1, if_neg e']
      exact owns_keep (h.out k' hk') fun r hr => hne r fun e2 => h.sep k' k hk' hk e' r hr (by rw [e2]; exact hg)
  · rw [hml k' hk'] at hp
    by_cases e : k' = k
    · subst e
      have h4 := h.row k' _ hk' (hswl p hp)
      rw [mat_set_self]
      simp only [if_true, hrow p]
      exact ⟨h4.1, h4.2.1.keep (hne _ fun e2 => by
        obtain ⟨C, hC⟩ := h.row_ty hk' (hswl p hp)
        rw [e2, hCg] at hC
        injection hC with h5
        injection h5 with _ h6 _
        exact absurd h6 (by decide)), h4.2.2⟩
    · have e1 : (s.setMat k (swR (s.mat k) i j)).mat k' = s.mat k' := by rw [mat_setMat s _ hk hk', if_neg (fun hh => e hh.symm)]
      have h4 := h.row k' p hk' hp
      simp only [e1, if_neg e]
      exact ⟨h4.1, h4.2.1.keep (hne _ fun e2 => by
        obtain ⟨C, hC⟩ := h.row_ty hk' hp
        rw [e2, hCg] at hC
        injection hC with h5
        injection h5 with _ h6 _
        exact absurd h6 (by decide)), h4.2.2⟩
  · rw [hml k1 h1] at h3
    rw [hml k2 h2] at h4
    have key := fun (a c : Nat) (ha : a < (s.mat k1).length) (hc : c < (s.mat k2).length) (e : bl k1 a = bl k2 c) => h.inj k1 a k2 c h1 h2 ha hc e
    by_cases c1 : k1 = k
    · by_cases c2 : k2 = k
      · subst c1; subst c2
        simp only [if_true] at e
        exact ⟨rfl, hinj _ _ (key _ _ (hswl _ h3) (hswl _ h4) e).2⟩
      · subst c1
        simp only [if_true, if_neg c2] at e
        exact absurd (key _ _ (hswl _ h3) h4 e).1 (fun hh => c2 hh.symm)
    · by_cases c2 : k2 = k
      · subst c2
        simp only [if_true, if_neg c1] at e
        exact absurd (key _ _ h3 (hswl _ h4) e).1 c1
      · simp only [if_neg c1, if_neg c2] at e
        exact key _ _ h3 h4 e
end
/-- what a call may turn: nothing below base, and of the blocks of other types than those of the state nothing -/
structure Ch (base : Nat) (w w' : World) : Prop where
  below : Below base w w'
  keep : ∀ (p : Nat) (C : Array Value) (e : TypeId), w.heap[p]? = some (.cells C e (0, 0)) → e ≠ 3 → e ≠ 25 → e ≠ 66 → e ≠ 70 → w'.heap[p]? = w.heap[p]?
section
variable {base : Nat} {w w' w'' : World}
theorem Ch.refl (base : Nat) (w : World) : Ch base w w := ⟨Below.refl _ _, fun _ _ _ _ _ _ _ _ => rfl⟩
theorem Ch.of_below (hb : base ≤ w.heap.size) (h : Below w.heap.size w w') : Ch base w w' := ⟨h.mono hb, fun p _ _ hp _ _ _ _ => h.block p (Array.getElem?_eq_some_iff.1 hp).1⟩
theorem Ch.trans (h : Ch base w w') (h' : Ch base w' w'') : Ch base w w'' := ⟨h.below.trans h'.below, fun p C e hp h3 h4 h5 h6 => by
  have h1 := h.keep p C e hp h3 h4 h5 h6
  exact (h'.keep p C e (h1.trans hp) h3 h4 h5 h6).trans h1⟩
theorem Ch.setCell (h : Ch base w w') {b : Nat} (hb : base ≤ b) {C : Array Value} {e : TypeId} (hC : w'.heap[b]? = some (.cells C e (0, 0))) (he : e = 3 ∨ e = 25 ∨ e = 66 ∨ e = 70) (k : Nat) (v : Value) : Ch base w (w'.setCell ⟨b, k, none⟩ v) :=
  ⟨h.below.setCell (p := ⟨b, k, none⟩) hb v, fun p C' e' hp h3 h4 h5 h6 => by
    have h1 := h.keep p C' e' hp h3 h4 h5 h6
    refine (Below.heap_setCell w' ⟨b, k, none⟩ v p fun e2 => ?_).trans h1
    have e3 : p = b := e2
    rw [← h1, e3, hC] at hp
    injection hp with h7
    injection h7 with _ h8 _
    subst h8
    rcases he with he | he | he | he
    · exact h3 he
    · exact h4 he
    · exact h5 he
    · exact h6 he⟩
theorem Ch.drew (h : Ch base w w') : Ch base w w'.drew := ⟨⟨h.below.os, h.below.tape, h.below.output, h.below.size, h.below.block⟩, h.keep⟩
theorem Ch.drewN (h : Ch base w w') (n : Nat) : Ch base w (w'.drewN n) := ⟨⟨h.below.os, h.below.tape, h.below.output, h.below.size, h.below.block⟩, h.keep⟩
theorem Ch.size (h : Ch base w w') : w.heap.size ≤ w'.heap.size := h.below.size
theorem Ch.mono {b' : Nat} (h : Ch base w w') (hb : b' ≤ base) : Ch b' w w' := ⟨h.below.mono hb, h.keep⟩
end
end Go.Proofs
namespace Go.Proofs
open Go.RowKit Go.Shelf Go.Proofs.Sm
/-- the first j entries of q, then those of p -/
def mixL (p q : List Int) (j : Nat) : List Int := q.take j ++ p.drop j
theorem mixL_zero (p q : List Int) : mixL p q 0 = p := by simp [mixL]
theorem mixL_full {p q : List Int} {j : Nat} (h : p.length ≤ j) (h2 : q.length ≤ j) : mixL p q j = q := by simp [mixL, List.drop_eq_nil_of_le h, List.take_of_length_le h2]
theorem mixL_length {p q : List Int} (h : q.length = p.length) (j : Nat) : (mixL p q j).length = p.length := by simp [mixL]; omega
theorem mixL_getD {p q : List Int} (h : q.length = p.length) (j i : Nat) : (mixL p q j).getD i 0 = if i < j then q.getD i 0 else p.getD i 0 := by
  simp only [mixL, List.getD_eq_getElem?_getD, List.getElem?_append, List.getElem?_take, List.getElem?_drop, List.length_take]
  rcases Nat.lt_or_ge i q.length with h1 | h1
  · by_cases h2 : i < j
    · rw [if_pos (by omega), if_pos h2, if_pos h2]
    · rw [if_neg (by omega), if_neg h2, show j + (i - min j q.length) = i by omega]
  · rw [if_neg (by omega), List.getElem?_eq_none (by omega : p.length ≤ j + (i - min j q.length)), List.getElem?_eq_none h1, List.getElem?_eq_none (by omega : p.length ≤ i)]
    split <;> rfl
theorem mixL_set {p q : List Int} (h : q.length = p.length) {j : Nat} (_hj : j < p.length) {z : Int} (hz : z = q.getD j 0) : (mixL p q j).set j z = mixL p q (j + 1) := by
  refine getD_ext (d := 0) (by rw [List.length_set, mixL_length h, mixL_length h]) fun i hi => ?_
  rw [List.length_set, mixL_length h] at hi
  rw [getD_set_, mixL_getD h, mixL_getD h, mixL_length h]
  by_cases e : j = i
  · subst e; rw [if_pos ⟨rfl, by omega⟩, if_pos (by omega), hz]
  · rw [if_neg (fun hh => e hh.1)]
    by_cases e2 : i < j
    · rw [if_pos e2, if_pos (by omega)]
    · rw [if_neg e2, if_neg (by omega)]
def In64 (x : Int) : Prop := -9223372036854775808 ≤ x ∧ x ≤ 9223372036854775807
/-- row k, x times, may be added to row i -/
def FitR (m : Mat) (i k : Nat) (x : Int) : Prop := ∀ j, In64 (ent m i j) ∧ In64 (ent m k j) ∧ In64 (x * ent m k j) ∧ In64 (ent m i j + x * ent m k j)
/-- the first c of the matrices a, u added to -/
def addTo (s : S) (i k : Nat) (x : Int) : Nat → S
  | 0 => s
  | 1 => s.setMat 0 (Sm.addR s.a i k x)
  | _ => s.addR i k x
theorem addTo_succ (s : S) (i k : Nat) (x : Int) {c : Nat} (hc : c < 2) : (addTo s i k x c).setMat c (Sm.addR (s.mat c) i k x) = addTo s i k x (c + 1) := by
  obtain rfl | rfl : c = 0 ∨ c = 1 := by omega
  all_goals rfl
theorem addTo_mat (s : S) (i k : Nat) (x : Int) {c : Nat} (hc : c < 2) : (addTo s i k x c).mat c = s.mat c := by
  obtain rfl | rfl : c = 0 ∨ c = 1 := by omega
  all_goals rfl
/-- row i with its first j entries added to -/
def mixM (m : Mat) (i k : Nat) (x : Int) (j : Nat) : Mat := m.set i (mixL (m.getD i []) (addL (m.getD i []) (m.getD k []) x) j)
theorem mixM_length (m : Mat) (i k : Nat) (x : Int) (j : Nat) : (mixM m i k x j).length = m.length := by simp [mixM]
section
variable {m : Mat} {r n i k j : Nat} {x : Int}
theorem addL_rect (h : Rect m r n) (hi : i < r) (hk : k < r) (x : Int) : (addL (m.getD i []) (m.getD k []) x).length = (m.getD i []).length := addL_length _ _ _ (by rw [rect_row h hi, rect_row h hk])
theorem mixM_row (h : Rect m r n) (hi : i < r) (hk : k < r) (p : Nat) : ((mixM m i k x j).getD p []).length = (m.getD p []).length := by
  unfold mixM
  rw [getD_set_]
  split
  · rename_i e
    obtain ⟨rfl, -⟩ := e
    rw [mixL_length (addL_rect h hi hk x)]
  · rfl
theorem mixM_zero (_h : Rect m r n) (_hi : i < r) : mixM m i k x 0 = m := by
  unfold mixM
  rw [mixL_zero]
  apply List.ext_getElem (by simp)
  intro p h1 h2
  rw [List.getElem_set]
  split
  · rename_i e; subst e
    simp [List.getD_eq_getElem?_getD, List.getElem?_eq_getElem h2]
  · rfl
theorem mixM_full (h : Rect m r n) (hi : i < r) (hk : k < r) (hj : n ≤ j) : mixM m i k x j = Sm.addR m i k x := by
  unfold mixM Sm.addR
  rw [mixL_full (by rw [rect_row h hi]; exact hj) (by rw [addL_rect h hi hk, rect_row h hi]; exact hj)]
theorem mixM_ent (h : Rect m r n) (hi : i < r) (hk : k < r) (p : Nat) : ent (mixM m i k x j) p j = ent m p j := by
  unfold ent mixM
  rw [getD_set_]
  split
  · rename_i e
    obtain ⟨rfl, -⟩ := e
    rw [mixL_getD (addL_rect h hi hk x), if_neg (by omega)]
  · rfl
theorem put_mixM (h : Rect m r n) (hi : i < r) (hk : k < r) (hj : j < n) : put (mixM m i k x j) i j (ent m i j + x * ent m k j) = mixM m i k x (j + 1) := by
  unfold put mixM
  rw [getD_set_, if_pos ⟨rfl, by rw [h.1]; exact hi⟩, mixL_set (addL_rect h hi hk x) (by rw [rect_row h hi]; exact hj) (by rw [addL_getD _ _ _ _ (by rw [rect_row h hi, rect_row h hk])]; rfl), List.set_set]
end
theorem lit2_keep {w : World} {B : Nat} {C : Array Value} {b' k : Nat} {D : Array Value} {v : Value} (h : w.heap[B]? = some (.cells C 22 (0, 0))) (hb : w.heap[b']? = some (.cells D 3 (0, 0))) : (w.setCell ⟨b', k, none⟩ v).heap[B]? = some (.cells C 22 (0, 0)) := by
  rw [Below.heap_setCell w ⟨b', k, none⟩ v B fun e => ?_]
  · exact h
  · have e' : B = b' := e
    rw [e', hb] at h
    cases h
theorem below_drew {B : Nat} {a w : World} (h : Below B a w) : Below B a w.drew := ⟨h.os, h.tape, h.output, h.size, h.block⟩
theorem heap_alloc_two (w : World) (o o' : Obj) : ((w.alloc o).alloc o').drew.heap[w.heap.size + 1]? = some o' := by
  have := heap_alloc_new (w.alloc o) o'
  rw [World.size_alloc] at this
  exact this
theorem below_two (w : World) (o o' : Obj) : Below w.heap.size w ((w.alloc o).alloc o').drew := below_drew (((Below.refl _ _).alloc (Nat.le_refl _) _).alloc (by simp) _)
set_option maxRecDepth 100000 in
set_option maxHeartbeats 1000000 in
theorem radd106_any (base b i k r n : Nat) (q : Int) (w : World) (s : S) (x : Value) (hs : Shape r n s) (hi : i < r) (hk : k < r) (hr : r ≤ 1000000) (hn : n ≤ 1000000) (hS : Wk 66 b base w s x) (hbw : base ≤ w.heap.size) (hfa : FitR s.a i k q) (hfu : FitR s.u i k q) :
    Calls Try.prog 106 #[.agg #[.pointer (some ⟨b, 0, none⟩)], .int .i64 (i : Int), .int .i64 (k : Int), .int .i64 q] w fun e w' => e = .returned (.tuple #[]) ∧ Wk 66 b base w' (s.addR i k q) x ∧ Ch base w w' := by
  obtain ⟨vs, bl, cs, hM⟩ := hS
  obtain ⟨c0, c1, c2, c3, c4⟩ := hM.cells
  have hbl := hM.lt
  obtain ⟨A0, d0, hv0, -, -⟩ := hM.form (k := 0) (by omega)
  obtain ⟨A1, d1, hv1, -, -⟩ := hM.form (k := 1) (by omega)
  rw [show (s.mat 0).length = r from hs.ra.1] at hv0
  rw [show (s.mat 1).length = r from hs.ru.1] at hv1
  rw [hv0] at c0
  rw [hv1] at c1
  have HV0 := Lib.hid hv0
  have HV1 := Lib.hid hv1
  have HM := Lib.hid hM
  have HS := Lib.hid hs
  have HF : Hid (∀ c, c < 2 → FitR (s.mat c) i k q) := Lib.hid fun c hc => by
    obtain rfl | rfl : c = 0 ∨ c = 1 := by omega
    · exact hfa
    · exact hfu
  clear hM hs hfa hfu c2 c3 hv0 hv1
  have hk0 : (0 : Int) ≤ (k : Int) := Int.natCast_nonneg _
  have hi0 : (0 : Int) ≤ (i : Int) := Int.natCast_nonneg _
  go_enter Try.func106, Try.ntmps106
  go_wp2_with fail
  go_region
  go_wp2_with fail
  go_loopw [24] (fun z wr => ∃ c : Nat, c ≤ 2 ∧ z = .int .i64 c ∧ Hid (WkM 66 b base wr (addTo s i k q c) x vs bl cs ∧ wr.heap[w.heap.size + 1]? = some (.cells #[vs 0, vs 1] 22 (0, 0)) ∧ Ch base w wr)) (fun z _ => 2 - (intOf z).toNat)
  case atStart => exact ⟨0, by omega, rfl, Lib.hid ⟨HM.out.below (below_two _ _ _), by rw [HV0.out, HV1.out]; exact heap_alloc_two _ _ _, Ch.of_below hbw (below_two _ _ _)⟩⟩
  case round =>
    obtain ⟨c, hc, rfl, HR⟩ := hrel
    obtain ⟨wo, rfl⟩ : ∃ wo, wo = wr := ⟨_, rfl⟩
    have hcc0 : (0 : Int) ≤ (c : Int) := Int.natCast_nonneg _
    by_cases hlt : c < 2
    · have hlt' : (c : Int) < 2 := by omega
      obtain ⟨L, hR, hL⟩ : ∃ L, Rect (s.mat c) r L ∧ L ≤ 1000000 := by
        obtain rfl | rfl : c = 0 ∨ c = 1 := by omega
        · exact ⟨n, HS.out.ra, hn⟩
        · exact ⟨r, HS.out.ru, hr⟩
      have hlen : ((addTo s i k q c).mat c).length = r := by rw [addTo_mat s i k q hlt]; exact hR.1
      have hrl : ∀ p, p < r → (((addTo s i k q c).mat c).getD p []).length = L := fun p hp => by rw [addTo_mat s i k q hlt]; exact rect_row hR hp
      obtain ⟨g, d, hv, hg1, -, -⟩ := HR.out.1.row_at (k := c) (i := k) (by omega) (by rw [hlen]; exact hk)
      rw [hrl k hk] at hg1
      rw [hlen] at hv
      have hlit : wo.cell? ⟨w.heap.size + 1, c, none⟩ = some (.slice (some ⟨g, 0, none⟩) r d) := by
        rw [cell_of_row _ _ _ _ _ _ HR.out.2.1]
        obtain rfl | rfl : c = 0 ∨ c = 1 := by omega
        · rw [← hv]; rfl
        · rw [← hv]; rfl
      have hcc := (HR.out.1.row c k (by omega) (by rw [hlen]; exact hk)).2.2
      rw [hrl k hk] at hcc
      have hc1 : (L : Int) ≤ (cs c k : Int) := by omega
      have HRL := Lib.hid hrl
      have HL := Lib.hid hlen
      have HV := Lib.hid hv
      have HR2 := Lib.hid hR
      clear hrl hlen hv hR hcc
      have hkr : (k : Int) < (r : Int) := by omega
      have hir : (i : Int) < (r : Int) := by omega
      go_wp2_with fail
      go_loopw [33] (fun z wr => ∃ j : Nat, j ≤ L ∧ z = .int .i64 j ∧ Hid (WkM 66 b base wr ((addTo s i k q c).setMat c (mixM (s.mat c) i k q j)) x vs bl cs ∧ wr.heap[w.heap.size + 1]? = some (.cells #[vs 0, vs 1] 22 (0, 0)) ∧ Ch base w wr)) (fun z _ => L - (intOf z).toNat)
      case atStart => exact ⟨0, by omega, rfl, Lib.hid ⟨by rw [mixM_zero HR2.out hi, ← addTo_mat s i k q hlt, setMat_self]; exact HR.out.1, HR.out.2.1, HR.out.2.2⟩⟩
      case round =>
        obtain ⟨j, hj, rfl, HQ⟩ := hrel
        have hj0 : (0 : Int) ≤ (j : Int) := Int.natCast_nonneg _
        by_cases hjl : j < L
        · have hjl' : (j : Int) < (L : Int) := by omega
          have hm : ((addTo s i k q c).setMat c (mixM (s.mat c) i k q j)).mat c = mixM (s.mat c) i k q j := mat_set_self _ _ _
          have hml : (mixM (s.mat c) i k q j).length = r := by rw [mixM_length]; exact HR2.out.1
          have hmr : ∀ p, p < r → ((mixM (s.mat c) i k q j).getD p []).length = L := fun p hp => by rw [mixM_row HR2.out hi hk]; exact rect_row HR2.out hp
          obtain ⟨g2, d2, hv2, hq1, -, -⟩ := HQ.out.1.row_at (k := c) (i := i) (by omega) (by rw [hm, hml]; exact hi)
          rw [hm, hmr i hi] at hq1
          rw [hm, hml, HV.out] at hv2
          obtain rfl : g = g2 := by injection hv2 with e1; injection e1 with e2; injection e2
          obtain ⟨hq2, hq3⟩ := HQ.out.1.ent_at (k := c) (i := i) (j := j) (by omega) (by rw [hm, hml]; exact hi) (by rw [hm, hmr i hi]; exact hjl)
          obtain ⟨hq4, -⟩ := HQ.out.1.ent_at (k := c) (i := k) (j := j) (by omega) (by rw [hm, hml]; exact hk) (by rw [hm, hmr k hk]; exact hjl)
          rw [hm, mixM_ent HR2.out hi hk] at hq2 hq4
          have hset := HQ.out.1.set (k := c) (i := i) (j := j) (by omega) (by rw [hm, hml]; exact hi) (by rw [hm, hmr i hi]; exact hjl) (ent (s.mat c) i j + q * ent (s.mat c) k j)
          rw [hm, setMat_setMat, put_mixM HR2.out hi hk hjl] at hset
          obtain ⟨D, hD⟩ := HQ.out.1.row_ty (k := c) (i := i) (by omega) (by rw [hm, hml]; exact hi)
          have hkeep := lit2_keep (k := j) (v := .int .i64 (ent (s.mat c) i j + q * ent (s.mat c) k j)) HQ.out.2.1 hD
          have hbel := HQ.out.2.2.setCell (HQ.out.1.row c i (by omega) (by rw [hm, hml]; exact hi)).1 hD (.inl rfl) j (.int .i64 (ent (s.mat c) i j + q * ent (s.mat c) k j))
          have HN : Hid (WkM 66 b base (wr.setCell ⟨bl c i, j, none⟩ (.int .i64 (ent (s.mat c) i j + q * ent (s.mat c) k j))) ((addTo s i k q c).setMat c (mixM (s.mat c) i k q (j + 1))) x vs bl cs ∧ (wr.setCell ⟨bl c i, j, none⟩ (.int .i64 (ent (s.mat c) i j + q * ent (s.mat c) k j))).heap[w.heap.size + 1]? = some (.cells #[vs 0, vs 1] 22 (0, 0)) ∧ Ch base w (wr.setCell ⟨bl c i, j, none⟩ (.int .i64 (ent (s.mat c) i j + q * ent (s.mat c) k j)))) := Lib.hid ⟨hset, hkeep, hbel⟩
          have hcc := (HQ.out.1.row c i (by omega) (by rw [hm, hml]; exact hi)).2.2
          rw [hm, hmr i hi] at hcc
          obtain ⟨f1, f2, f3, f4⟩ := HF.out c hlt j
          clear hm hml hmr hv2 hset hD hkeep hbel
          generalize ent (s.mat c) i j = z at *
          generalize ent (s.mat c) k j = y at *
          obtain ⟨f1a, f1b⟩ := f1
          obtain ⟨f2a, f2b⟩ := f2
          obtain ⟨f3a, f3b⟩ := f3
          obtain ⟨f4a, f4b⟩ := f4
          have hcc1 := hcc.1
          have hcc2 := hcc.2
          clear hcc
          go_wp2_with fail
          go_roundw
          case rel => exact ⟨j + 1, by omega, by go_num, HN⟩
          case measure => simp [intOf]; omega
        · obtain rfl : j = L := by omega
          go_wp2_with fail
          go_roundw
          case rel => exact ⟨c + 1, by omega, by go_num, Lib.hid ⟨by have := HQ.out.1; rw [mixM_full HR2.out hi hk (Nat.le_refl _), addTo_succ s i k q hlt] at this; exact this, HQ.out.2.1, HQ.out.2.2⟩⟩
          case measure => simp [intOf]; omega
    · obtain rfl : c = 2 := by omega
      go_wp2_with fail
      go_end0
      exact ⟨rfl, ⟨vs, bl, cs, HR.out.1⟩, HR.out.2.2⟩
end Go.Proofs
