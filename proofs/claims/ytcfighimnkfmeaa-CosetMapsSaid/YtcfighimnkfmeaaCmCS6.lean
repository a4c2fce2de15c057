/- Coset enumeration, plainly: states, coincidences, and what they keep. No program in sight; Coset enumeration, plainly: a coincidence keeps the edges, and empties the rows of the dead; Coset enumeration, plainly: the queue of a coincidence, and what stands behind it; Coset enumeration, plainly: what a state that goes on keeps; adding, defining, joining, scanning, filling. -/
import Derived.Test.YtcfighimnkfmeaaCmCS5
namespace Go.Proofs.Ct
/-- the element (r, c) set -/
def set2 (t : Tb) (r c : Nat) (v : Int) : Tb := t.set r ((t.row r).set c v)
theorem length_set2 (t : Tb) (r c : Nat) (v : Int) : (set2 t r c v).length = t.length := by simp [set2]
theorem row_set2 (t : Tb) (r c : Nat) (v : Int) (k : Nat) : (set2 t r c v).row k = if r = k ∧ r < t.length then (t.row r).set c v else t.row k := by
  unfold set2 Tb.row
  rw [List.getD_eq_getElem?_getD, List.getElem?_set]
  by_cases h : r = k
  · subst h
    by_cases h2 : r < t.length
    · simp [h2]
    · simp [h2, List.getD_eq_getElem?_getD]
  · simp [h, List.getD_eq_getElem?_getD]
theorem rowlen_set2 (t : Tb) (r c : Nat) (v : Int) (k : Nat) : ((set2 t r c v).row k).length = (t.row k).length := by
  rw [row_set2]
  split
  · rename_i h; rw [← h.1]; simp
  · rfl
theorem at_set2 (t : Tb) (r c : Nat) (v : Int) (k j : Nat) : (set2 t r c v).at k j = if r = k ∧ c = j ∧ r < t.length ∧ c < (t.row r).length then v else t.at k j := by
  unfold Tb.at
  rw [row_set2]
  by_cases h : r = k ∧ r < t.length
  · rw [if_pos h]
    obtain ⟨rfl, hr⟩ := h
    rw [List.getD_eq_getElem?_getD, List.getElem?_set]
    by_cases hc : c = j
    · subst hc
      by_cases hl : c < (t.row r).length
      · simp [hl, hr]
      · simp [hl, List.getD_eq_getElem?_getD]
    · simp [hc, List.getD_eq_getElem?_getD]
  · rw [if_neg h, if_neg (fun h' => h ⟨h'.1, h'.2.2.1⟩)]
theorem flp_flp (c : Nat) : flp (flp c) = c := by unfold flp; split <;> split <;> omega
theorem flp_ne (c : Nat) : flp c ≠ c := by unfold flp; split <;> omega
theorem flp_lt2 {c g : Nat} (h : c < 2 * g) : flp c < 2 * g := by unfold flp; split <;> omega
/-- the state of an enumeration: the rows, the representatives, the queue, how many live, how many at most -/
structure St where
  t : Tb
  rep : List Nat
  q : List Nat
  live : Int
  most : Int
def St.rp (s : St) (x : Nat) : Nat := s.rep.getD x 0
def mergeS (s : St) (a b : Nat) : St :=
  if s.rp a = s.rp b then s else { s with rep := s.rep.map fun x => if x = max (s.rp a) (s.rp b) then min (s.rp a) (s.rp b) else x, q := s.q ++ [max (s.rp a) (s.rp b)], live := s.live - 1 }
def joinT (t : Tb) (r c d : Nat) : Tb := set2 (set2 t r c (d : Int)) d (flp c) (r : Int)
def cutT (t : Tb) (e c : Nat) : Tb := set2 (set2 t e c (-1)) (t.at e c).toNat (flp c) (-1)
def stepS (e c : Nat) (s : St) : St :=
  if s.t.at e c < 0 then s else
  if 0 ≤ (cutT s.t e c).at (s.rp e) c then mergeS { s with t := cutT s.t e c } ((cutT s.t e c).at (s.rp e) c).toNat (s.rp (s.t.at e c).toNat) else
  if 0 ≤ (cutT s.t e c).at (s.rp (s.t.at e c).toNat) (flp c) then mergeS { s with t := cutT s.t e c } ((cutT s.t e c).at (s.rp (s.t.at e c).toNat) (flp c)).toNat (s.rp e) else
  { s with t := joinT (cutT s.t e c) (s.rp e) c (s.rp (s.t.at e c).toNat) }
def procTo (e : Nat) (c : Nat) (s : St) : St := foldTo (stepS e) c s
def coinTo (m k : Nat) (s : St) : St := foldTo (fun k s => if k < s.q.length then procTo (s.q.getD k 0) m s else s) k s
def coinS (m : Nat) (s : St) (a b : Nat) : St := coinTo m s.t.length (mergeS { s with q := [] } a b)
/-- what always holds of a state with 2 * g columns -/
structure Inv (g : Nat) (s : St) : Prop where
  len : ∀ r, r < s.t.length → (s.t.row r).length = 2 * g
  bd : ∀ r, r < s.t.length → ∀ c, c < 2 * g → -1 ≤ s.t.at r c ∧ s.t.at r c < s.t.length
  rl : s.rep.length = s.t.length
  rle : ∀ x, x < s.t.length → s.rp x ≤ x
  rid : ∀ x, x < s.t.length → s.rp (s.rp x) = s.rp x
  back : ∀ r, r < s.t.length → ∀ c, c < 2 * g → 0 ≤ s.t.at r c → s.t.at (s.t.at r c).toNat (flp c) = r
theorem Inv.rlt {g : Nat} {s : St} (h : Inv g s) {x : Nat} (hx : x < s.t.length) : s.rp x < s.t.length := Nat.lt_of_le_of_lt (h.rle x hx) hx
/-- an edge -/
def Edge (t : Tb) (x c y : Nat) : Prop := t.at x c = (y : Int)
/-- s goes on from s0: classes grow, edges stay, seen from the classes -/
structure Cov (g : Nat) (s0 s : St) : Prop where
  n : s.t.length = s0.t.length
  coarse : ∀ x, x < s0.t.length → s.rp (s0.rp x) = s.rp x
  edge : ∀ x c y, x < s0.t.length → c < 2 * g → Edge s0.t x c y → ∃ u v, u < s0.t.length ∧ v < s0.t.length ∧ Edge s.t u c v ∧ s.rp u = s.rp x ∧ s.rp v = s.rp y
theorem Edge.lt {g : Nat} {s : St} (h : Inv g s) {x c y : Nat} (hx : x < s.t.length) (hc : c < 2 * g) (he : Edge s.t x c y) : y < s.t.length := by
  have := (h.bd x hx c hc).2
  rw [he] at this
  omega
theorem Edge.back {g : Nat} {s : St} (h : Inv g s) {x c y : Nat} (hx : x < s.t.length) (hc : c < 2 * g) (he : Edge s.t x c y) : Edge s.t y (flp c) x := by
  have := h.back x hx c hc (by rw [he]; omega)
  rw [he] at this
  unfold Edge
  simpa using this
theorem Cov.refl {g : Nat} {s : St} (h : Inv g s) : Cov g s s := ⟨rfl, fun x hx => h.rid x hx, fun x _c y hx hc he => ⟨x, y, hx, he.lt h hx hc, he, rfl, rfl⟩⟩
theorem Cov.trans {g : Nat} {a b c : St} (ha : Inv g a) (h1 : Cov g a b) (h2 : Cov g b c) : Cov g a c := by
  have hsame : ∀ x y, x < a.t.length → y < a.t.length → b.rp x = b.rp y → c.rp x = c.rp y := fun x y hx hy e => by
    rw [← h2.coarse x (by rw [h1.n]; exact hx), ← h2.coarse y (by rw [h1.n]; exact hy), e]
  refine ⟨h2.n.trans h1.n, fun x hx => ?_, fun x k y hx hk he => ?_⟩
  · have hr := ha.rlt hx
    exact hsame _ _ hr hx (h1.coarse x hx)
  · have hy := he.lt ha hx hk
    obtain ⟨u, v, hu, hv, e1, e2, e3⟩ := h1.edge x k y hx hk he
    obtain ⟨u', v', hu', hv', f1, f2, f3⟩ := h2.edge u k v (by rw [h1.n]; exact hu) hk e1
    rw [h1.n] at hu' hv'
    exact ⟨u', v', hu', hv', f1, f2.trans (hsame _ _ hu hx e2), f3.trans (hsame _ _ hv hy e3)⟩
/-- merging -/
theorem rp_merge {g : Nat} {s : St} (h : Inv g s) {a b x : Nat} (_ha : a < s.t.length) (_hb : b < s.t.length) (hx : x < s.t.length) : (mergeS s a b).rp x = if s.rp x = max (s.rp a) (s.rp b) then min (s.rp a) (s.rp b) else s.rp x := by
  unfold mergeS
  split
  · rename_i e
    rw [e, Nat.max_self, Nat.min_self]
    split
    · rename_i e2; exact e2
    · rfl
  · unfold St.rp
    simp only
    have hl : x < s.rep.length := by rw [h.rl]; exact hx
    simp [List.getD_eq_getElem?_getD, hl]
theorem t_merge (s : St) (a b : Nat) : (mergeS s a b).t = s.t := by unfold mergeS; split <;> rfl
theorem Inv.merge {g : Nat} {s : St} (h : Inv g s) {a b : Nat} (ha : a < s.t.length) (hb : b < s.t.length) : Inv g (mergeS s a b) := by
  have ht := t_merge s a b
  have hra := h.rid a ha
  have hrb := h.rid b hb
  have hla := h.rle a ha
  have hlb := h.rle b hb
  refine ⟨by rw [ht]; exact h.len, by rw [ht]; exact h.bd, ?_, fun x hx => ?_, fun x hx => ?_, by rw [ht]; exact h.back⟩
  · rw [ht]
    unfold mergeS
    split
    · exact h.rl
    · simpa using h.rl
  · rw [ht] at hx
    rw [rp_merge h ha hb hx]
    have := h.rle x hx
    split <;> omega
  · rw [ht] at hx
    have hx1 := h.rlt hx
    have hr := h.rid x hx
    rw [rp_merge h ha hb hx]
    by_cases e : s.rp x = max (s.rp a) (s.rp b)
    · rw [if_pos e]
      have hmin : min (s.rp a) (s.rp b) < s.t.length := by omega
      have hmr : s.rp (min (s.rp a) (s.rp b)) = min (s.rp a) (s.rp b) := by
        rcases Nat.le_total (s.rp a) (s.rp b) with h' | h'
        · rw [Nat.min_eq_left h']; exact hra
        · rw [Nat.min_eq_right h']; exact hrb
      rw [rp_merge h ha hb hmin, hmr]
      split
      · rfl
      · rfl
    · rw [if_neg e, rp_merge h ha hb hx1, hr, if_neg e]
theorem Cov.merge {g : Nat} {s : St} (h : Inv g s) {a b : Nat} (ha : a < s.t.length) (hb : b < s.t.length) : Cov g s (mergeS s a b) ∧ (mergeS s a b).rp a = (mergeS s a b).rp b := by
  refine ⟨⟨by rw [t_merge], fun x hx => ?_, fun x c y hx hc he => ⟨x, y, hx, he.lt h hx hc, by rw [t_merge]; exact he, rfl, rfl⟩⟩, ?_⟩
  · rw [rp_merge h ha hb hx, rp_merge h ha hb (h.rlt hx), h.rid x hx]
  · rw [rp_merge h ha hb ha, rp_merge h ha hb hb]
    split <;> split <;> omega
end Go.Proofs.Ct
namespace Go.Proofs.Ct
section
variable {g : Nat} {s : St}
theorem at_cut (h : Inv g s) {e c : Nat} (he : e < s.t.length) (hc : c < 2 * g) (_hd : 0 ≤ s.t.at e c) (k j : Nat) :
    (cutT s.t e c).at k j = if (k = e ∧ j = c) ∨ (k = (s.t.at e c).toNat ∧ j = flp c) then -1 else s.t.at k j := by
  have hb := h.bd e he c hc
  have hdn : (s.t.at e c).toNat < s.t.length := by omega
  unfold cutT
  rw [at_set2, at_set2, length_set2, rowlen_set2, h.len _ he, h.len _ hdn]
  have hf := flp_lt2 hc
  by_cases h1 : (s.t.at e c).toNat = k ∧ flp c = j
  · rw [if_pos ⟨h1.1, h1.2, hdn, hf⟩, if_pos (.inr ⟨h1.1.symm, h1.2.symm⟩)]
  · rw [if_neg (fun h' => h1 ⟨h'.1, h'.2.1⟩)]
    by_cases h2 : e = k ∧ c = j
    · rw [if_pos ⟨h2.1, h2.2, he, hc⟩, if_pos (.inl ⟨h2.1.symm, h2.2.symm⟩)]
    · rw [if_neg (fun h' => h2 ⟨h'.1, h'.2.1⟩), if_neg]
      rintro (h' | h')
      · exact h2 ⟨h'.1.symm, h'.2.symm⟩
      · exact h1 ⟨h'.1.symm, h'.2.symm⟩
theorem length_cut (t : Tb) (e c : Nat) : (cutT t e c).length = t.length := by simp [cutT, length_set2]
theorem rowlen_cut (t : Tb) (e c k : Nat) : ((cutT t e c).row k).length = (t.row k).length := by simp [cutT, rowlen_set2]
theorem Inv.cut (h : Inv g s) {e c : Nat} (he : e < s.t.length) (hc : c < 2 * g) (hd : 0 ≤ s.t.at e c) : Inv g { s with t := cutT s.t e c } := by
  have hdn : (s.t.at e c).toNat < s.t.length := by have := h.bd e he c hc; omega
  have hbk := h.back e he c hc hd
  refine ⟨fun r hr => ?_, fun r hr k hk => ?_, ?_, fun x hx => h.rle x (by simpa [length_cut] using hx), fun x hx => h.rid x (by simpa [length_cut] using hx), fun r hr k hk h0 => ?_⟩
  · rw [rowlen_cut]; exact h.len r (by simpa [length_cut] using hr)
  · simp only [length_cut] at hr ⊢
    rw [at_cut h he hc hd]
    have := h.bd r hr k hk
    split
    · omega
    · exact this
  · simp only [length_cut]; exact h.rl
  · simp only [length_cut] at hr
    simp only at h0 ⊢
    rw [at_cut h he hc hd r k] at h0 ⊢
    by_cases hx : (r = e ∧ k = c) ∨ (r = (s.t.at e c).toNat ∧ k = flp c)
    · rw [if_pos hx] at h0; omega
    · rw [if_neg hx] at h0 ⊢
      rw [at_cut h he hc hd, if_neg]
      · exact h.back r hr k hk h0
      · have hb := h.back r hr k hk h0
        rintro (⟨h1, h2⟩ | ⟨h1, h2⟩)
        · rw [h1, h2] at hb
          exact hx (.inr ⟨by omega, by rw [← h2, flp_flp]⟩)
        · have hkc : k = c := by rw [← flp_flp k, h2, flp_flp]
          rw [h1, h2, hbk] at hb
          exact hx (.inl ⟨by omega, hkc⟩)
theorem at_join (h : Inv g s) {u v c : Nat} (hu : u < s.t.length) (hv : v < s.t.length) (hc : c < 2 * g) (k j : Nat) :
    (joinT s.t u c v).at k j = if k = v ∧ j = flp c then (u : Int) else if k = u ∧ j = c then (v : Int) else s.t.at k j := by
  have hf := flp_lt2 hc
  unfold joinT
  rw [at_set2, at_set2, length_set2, rowlen_set2, h.len _ hu, h.len _ hv]
  by_cases h1 : k = v ∧ j = flp c
  · rw [if_pos ⟨h1.1.symm, h1.2.symm, hv, hf⟩, if_pos h1]
  · rw [if_neg (fun h' => h1 ⟨h'.1.symm, h'.2.1.symm⟩), if_neg h1]
    by_cases h2 : k = u ∧ j = c
    · rw [if_pos ⟨h2.1.symm, h2.2.symm, hu, hc⟩, if_pos h2]
    · rw [if_neg (fun h' => h2 ⟨h'.1.symm, h'.2.1.symm⟩), if_neg h2]
theorem length_join (t : Tb) (u c v : Nat) : (joinT t u c v).length = t.length := by simp [joinT, length_set2]
theorem rowlen_join (t : Tb) (u c v k : Nat) : ((joinT t u c v).row k).length = (t.row k).length := by simp [joinT, rowlen_set2]
theorem Inv.join (h : Inv g s) {u v c : Nat} (hu : u < s.t.length) (hv : v < s.t.length) (hc : c < 2 * g) (h1 : s.t.at u c < 0) (h2 : s.t.at v (flp c) < 0) : Inv g { s with t := joinT s.t u c v } := by
  refine ⟨fun r hr => ?_, fun r hr k hk => ?_, ?_, fun x hx => h.rle x (by simpa [length_join] using hx), fun x hx => h.rid x (by simpa [length_join] using hx), fun r hr k hk h0 => ?_⟩
  · rw [rowlen_join]; exact h.len r (by simpa [length_join] using hr)
  · simp only [length_join] at hr ⊢
    rw [at_join h hu hv hc]
    have := h.bd r hr k hk
    split
    · omega
    · split
      · omega
      · exact this
  · simp only [length_join]; exact h.rl
  · simp only [length_join] at hr
    simp only at h0 ⊢
    have hne := flp_ne c
    rw [at_join h hu hv hc r k] at h0 ⊢
    by_cases e1 : r = v ∧ k = flp c
    · rw [if_pos e1, Int.toNat_natCast, at_join h hu hv hc, e1.2, flp_flp, if_neg (fun h' => hne h'.2.symm), if_pos ⟨rfl, rfl⟩, e1.1]
    · rw [if_neg e1] at h0 ⊢
      by_cases e2 : r = u ∧ k = c
      · rw [if_pos e2, Int.toNat_natCast, at_join h hu hv hc, if_pos ⟨rfl, by rw [e2.2]⟩, e2.1]
      · rw [if_neg e2] at h0 ⊢
        have hb := h.back r hr k hk h0
        rw [at_join h hu hv hc, if_neg, if_neg]
        · exact hb
        · rintro ⟨h', h''⟩
          rw [h', h''] at hb
          omega
        · rintro ⟨h', h''⟩
          rw [h', h''] at hb
          omega
/-- one column of one row: it keeps what always holds, and goes on from where it was -/
theorem step_cov (h : Inv g s) {e c : Nat} (he : e < s.t.length) (hc : c < 2 * g) : Inv g (stepS e c s) ∧ Cov g s (stepS e c s) := by
  unfold stepS
  by_cases hd : s.t.at e c < 0
  · rw [if_pos hd]
    exact ⟨h, Cov.refl h⟩
  · rw [if_neg hd]
    have hd' : 0 ≤ s.t.at e c := by omega
    obtain ⟨d, hdd⟩ := Int.eq_ofNat_of_zero_le hd'
    have hdn : d < s.t.length := by have := h.bd e he c hc; omega
    have hcut := h.cut he hc hd'
    have hat := at_cut h he hc hd'
    have hbk : s.t.at d (flp c) = (e : Int) := by have := h.back e he c hc hd'; rw [hdd] at this; simpa using this
    rw [hdd, Int.toNat_natCast] at hat ⊢
    have hun := h.rlt he
    have hvn := h.rlt hdn
    have hlen := length_cut s.t e c
    have hf := flp_lt2 hc
    generalize hs1 : ({ s with t := cutT s.t e c } : St) = s1 at *
    have ht1 : s1.t = cutT s.t e c := by rw [← hs1]
    have hrp1 : ∀ x, s1.rp x = s.rp x := fun x => by rw [← hs1]; rfl
    have hn1 : s1.t.length = s.t.length := by rw [ht1, hlen]
    rw [← ht1] at hat ⊢
    -- edges that are not cut
    have hkeep : ∀ x k y, x < s.t.length → k < 2 * g → Edge s.t x k y → ¬ ((x = e ∧ k = c) ∨ (x = d ∧ k = flp c)) → Edge s1.t x k y := fun x k y hx hk hE hn => by
      unfold Edge
      rw [hat, if_neg hn]
      exact hE
    have hcov0 : ∀ s2 : St, Cov g s1 s2 → (∀ u v : Nat, u < s.t.length → v < s.t.length → True) →
        (∃ u v, u < s.t.length ∧ v < s.t.length ∧ Edge s2.t u c v ∧ s2.rp u = s2.rp e ∧ s2.rp v = s2.rp d) → (∃ u v, u < s.t.length ∧ v < s.t.length ∧ Edge s2.t u (flp c) v ∧ s2.rp u = s2.rp d ∧ s2.rp v = s2.rp e) → Cov g s s2 := fun s2 h2 _ ha hb => by
      refine ⟨h2.n.trans hn1, fun x hx => ?_, fun x k y hx hk hE => ?_⟩
      · rw [← hrp1 x]; exact h2.coarse x (by rw [hn1]; exact hx)
      · by_cases h3 : (x = e ∧ k = c) ∨ (x = d ∧ k = flp c)
        · rcases h3 with ⟨rfl, rfl⟩ | ⟨rfl, rfl⟩
          · obtain rfl : y = d := by unfold Edge at hE; omega
            exact ha
          · obtain rfl : y = e := by unfold Edge at hE; omega
            exact hb
        · obtain ⟨u, v, h4, h5, h6⟩ := h2.edge x k y (by rw [hn1]; exact hx) hk (hkeep x k y hx hk hE h3)
          rw [hn1] at h4 h5
          exact ⟨u, v, h4, h5, h6⟩
    have hce : ∀ (s2 : St), Cov g s1 s2 → ∀ x, x < s.t.length → s2.rp (s.rp x) = s2.rp x := fun s2 h2 x hx => by
      have := h2.coarse x (by omega)
      rwa [hrp1] at this
    by_cases h1 : 0 ≤ s1.t.at (s.rp e) c
    · rw [if_pos h1]
      obtain ⟨w, hw⟩ := Int.eq_ofNat_of_zero_le h1
      have hE1 : Edge s1.t (s.rp e) c w := hw
      have hwn : w < s.t.length := by have := hE1.lt hcut (by rw [hn1]; exact hun) hc; omega
      have hE2 := hE1.back hcut (by rw [hn1]; exact hun) hc
      rw [hw, Int.toNat_natCast]
      have hI := hcut.merge (a := w) (b := s.rp d) (by omega) (by omega)
      obtain ⟨hC, hm⟩ := Cov.merge hcut (a := w) (b := s.rp d) (by omega) (by omega)
      refine ⟨hI, hcov0 _ hC (fun _ _ _ _ => trivial) ⟨s.rp e, w, hun, hwn, by rw [t_merge]; exact hE1, ?_, ?_⟩ ⟨w, s.rp e, hwn, hun, by rw [t_merge]; exact hE2, ?_, ?_⟩⟩
      · exact hce _ hC e he
      · rw [hm]; exact hce _ hC d hdn
      · rw [hm]; exact hce _ hC d hdn
      · exact hce _ hC e he
    · rw [if_neg h1]
      by_cases h2 : 0 ≤ s1.t.at (s.rp d) (flp c)
      · rw [if_pos h2]
        obtain ⟨w, hw⟩ := Int.eq_ofNat_of_zero_le h2
        have hE1 : Edge s1.t (s.rp d) (flp c) w := hw
        have hwn : w < s.t.length := by have := hE1.lt hcut (by rw [hn1]; exact hvn) hf; omega
        have hE2 := hE1.back hcut (by rw [hn1]; exact hvn) hf
        rw [flp_flp] at hE2
        rw [hw, Int.toNat_natCast]
        have hI := hcut.merge (a := w) (b := s.rp e) (by omega) (by omega)
        obtain ⟨hC, hm⟩ := Cov.merge hcut (a := w) (b := s.rp e) (by omega) (by omega)
        refine ⟨hI, hcov0 _ hC (fun _ _ _ _ => trivial) ⟨w, s.rp d, hwn, hvn, by rw [t_merge]; exact hE2, ?_, ?_⟩ ⟨s.rp d, w, hvn, hwn, by rw [t_merge]; exact hE1, ?_, ?_⟩⟩
        · rw [hm]; exact hce _ hC e he
        · exact hce _ hC d hdn
        · exact hce _ hC d hdn
        · rw [hm]; exact hce _ hC e he
      · rw [if_neg h2]
        have hI := hcut.join (u := s.rp e) (v := s.rp d) (c := c) (by omega) (by omega) hc (by omega) (by omega)
        have haj := at_join hcut (u := s.rp e) (v := s.rp d) (c := c) (by omega) (by omega) hc
        have hs2 : ({ s with t := joinT s1.t (s.rp e) c (s.rp d) } : St) = { s1 with t := joinT s1.t (s.rp e) c (s.rp d) } := by rw [← hs1]
        rw [hs2]
        have hrp2 : ∀ x, ({ s1 with t := joinT s1.t (s.rp e) c (s.rp d) } : St).rp x = s.rp x := fun x => hrp1 x
        have hC : Cov g s1 { s1 with t := joinT s1.t (s.rp e) c (s.rp d) } := ⟨by simp [length_join], fun x hx => hcut.rid x hx, fun x k y hx hk hE => ⟨x, y, hx, hE.lt hcut hx hk, by
          unfold Edge at hE ⊢
          simp only
          rw [haj, if_neg, if_neg]
          · exact hE
          · rintro ⟨rfl, rfl⟩; omega
          · rintro ⟨rfl, rfl⟩; omega, rfl, rfl⟩⟩
        refine ⟨hI, hcov0 _ hC (fun _ _ _ _ => trivial) ⟨s.rp e, s.rp d, hun, hvn, ?_, ?_, ?_⟩ ⟨s.rp d, s.rp e, hvn, hun, ?_, ?_, ?_⟩⟩
        · unfold Edge
          simp only
          rw [haj, if_neg (fun h' => flp_ne c h'.2.symm), if_pos ⟨rfl, rfl⟩]
        · rw [hrp2, hrp2]; exact h.rid e he
        · rw [hrp2, hrp2]; exact h.rid d hdn
        · unfold Edge
          simp only
          rw [haj, if_pos ⟨rfl, rfl⟩]
        · rw [hrp2, hrp2]; exact h.rid d hdn
        · rw [hrp2, hrp2]; exact h.rid e he
end
end Go.Proofs.Ct
namespace Go.Proofs.Ct
theorem countP_flip {M : Nat} {p p' : Nat → Bool} (hM : p M = false) (hM' : p' M = true) (hx : ∀ x, x ≠ M → p' x = p x) : ∀ n, M < n → (List.range n).countP p' = (List.range n).countP p + 1
  | 0, h => absurd h (Nat.not_lt_zero _)
  | n + 1, h => by
    rw [List.range_succ, List.countP_append, List.countP_append]
    by_cases e : n = M
    · subst e
      have : (List.range n).countP p' = (List.range n).countP p := List.countP_congr fun x hx' => by
        rw [hx x (by simp at hx'; omega)]
      simp [this, hM, hM']
    · rw [countP_flip hM hM' hx n (by omega)]
      simp [hx n e]
      omega
/-- how many cosets are dead -/
def dc (s : St) : Nat := (List.range s.t.length).countP fun x => decide (s.rp x ≠ x)
theorem dc_le (s : St) : dc s ≤ s.t.length := by
  have := List.countP_le_length (p := fun x => decide (s.rp x ≠ x)) (l := List.range s.t.length)
  simpa [dc] using this
/-- the dead with elements wait in the queue, from k (and there from the column c0) on -/
structure QI (g k c0 : Nat) (s : St) : Prop where
  dead : ∀ x, x < s.t.length → s.rp x ≠ x → ∀ c, c < 2 * g → 0 ≤ s.t.at x c → ∃ j, j < s.q.length ∧ s.q.getD j 0 = x ∧ (k < j ∨ (k = j ∧ c0 ≤ c))
  qd : ∀ j, j < s.q.length → s.q.getD j 0 < s.t.length ∧ s.rp (s.q.getD j 0) ≠ s.q.getD j 0
  cnt : s.q.length ≤ dc s
  lv : s.live + (dc s : Int) = s.t.length
/-- the dead are empty -/
structure Rest (g : Nat) (s : St) : Prop where
  inv : Inv g s
  dead : ∀ x, x < s.t.length → s.rp x ≠ x → ∀ c, c < 2 * g → s.t.at x c < 0
  lv : s.live + (dc s : Int) = s.t.length
section
variable {g : Nat} {s : St}
theorem merge_dead (h : Inv g s) {a b : Nat} (ha : a < s.t.length) (hb : b < s.t.length) (hne : s.rp a ≠ s.rp b) :
    max (s.rp a) (s.rp b) < s.t.length ∧ s.rp (max (s.rp a) (s.rp b)) = max (s.rp a) (s.rp b) ∧ (mergeS s a b).rp (max (s.rp a) (s.rp b)) ≠ max (s.rp a) (s.rp b) ∧ (∀ x, x < s.t.length → x ≠ max (s.rp a) (s.rp b) → ((mergeS s a b).rp x = x ↔ s.rp x = x)) ∧ (mergeS s a b).q = s.q ++ [max (s.rp a) (s.rp b)] ∧ (mergeS s a b).live = s.live - 1 ∧ dc (mergeS s a b) = dc s + 1 := by
  have hra := h.rid a ha
  have hrb := h.rid b hb
  have hla := h.rlt ha
  have hlb := h.rlt hb
  have hM : s.rp (max (s.rp a) (s.rp b)) = max (s.rp a) (s.rp b) := by
    rcases Nat.le_total (s.rp a) (s.rp b) with h' | h'
    · rw [Nat.max_eq_right h']; exact hrb
    · rw [Nat.max_eq_left h']; exact hra
  have hMl : max (s.rp a) (s.rp b) < s.t.length := by omega
  have h3 : (mergeS s a b).rp (max (s.rp a) (s.rp b)) ≠ max (s.rp a) (s.rp b) := by
    rw [rp_merge h ha hb hMl, hM, if_pos rfl]
    omega
  have h4 : ∀ x, x < s.t.length → x ≠ max (s.rp a) (s.rp b) → ((mergeS s a b).rp x = x ↔ s.rp x = x) := fun x hx hxM => by
    rw [rp_merge h ha hb hx]
    have hle := h.rle x hx
    split
    · rename_i e
      constructor
      · intro h'; omega
      · intro h'; omega
    · rfl
  refine ⟨hMl, hM, h3, h4, by unfold mergeS; rw [if_neg hne], by unfold mergeS; rw [if_neg hne], ?_⟩
  unfold dc
  rw [t_merge]
  have hcg : (List.range s.t.length).countP (fun x => decide ((mergeS s a b).rp x ≠ x)) = (List.range s.t.length).countP (fun x => if x = max (s.rp a) (s.rp b) then true else decide (s.rp x ≠ x)) := List.countP_congr fun x hx => by
    have hx' : x < s.t.length := by simpa using hx
    by_cases e : x = max (s.rp a) (s.rp b)
    · rw [if_pos e, e]; simp only [decide_eq_true_eq]; exact ⟨fun _ => trivial, fun _ => h3⟩
    · rw [if_neg e]; simp only [decide_eq_true_eq]; exact not_congr (h4 x hx' e)
  rw [hcg]
  refine countP_flip (M := max (s.rp a) (s.rp b)) (by simpa using hM) (by simp) (fun x hx => by rw [if_neg hx]) _ hMl
theorem QI.merge (h : Inv g s) {k c0 : Nat} (hq : QI g k c0 s) (hk : k < s.q.length ∨ (k = s.q.length ∧ c0 = 0)) {a b : Nat} (ha : a < s.t.length) (hb : b < s.t.length) : QI g k c0 (mergeS s a b) := by
  by_cases hne : s.rp a = s.rp b
  · unfold mergeS; rw [if_pos hne]; exact hq
  · obtain ⟨m1, m2, m3, m4, m5, m6, m7⟩ := merge_dead h ha hb hne
    have ht := t_merge s a b
    have hl : (mergeS s a b).q.length = s.q.length + 1 := by rw [m5]; simp
    have hold : ∀ j, j < s.q.length → (mergeS s a b).q.getD j 0 = s.q.getD j 0 := fun j hj => by rw [m5]; simp [List.getD_eq_getElem?_getD, List.getElem?_append_left hj]
    have hnew : (mergeS s a b).q.getD s.q.length 0 = max (s.rp a) (s.rp b) := by rw [m5]; simp [List.getD_eq_getElem?_getD]
    refine ⟨fun x hx hd c hc h0 => ?_, fun j hj => ?_, by rw [hl, m7]; have := hq.cnt; omega, by rw [m6, m7, ht]; have := hq.lv; omega⟩
    · rw [ht] at hx h0
      by_cases e : x = max (s.rp a) (s.rp b)
      · exact ⟨s.q.length, by omega, by rw [hnew, e], by rcases hk with hk | ⟨hk, h0'⟩ <;> omega⟩
      · obtain ⟨j, h1, h2, h3⟩ := hq.dead x hx (fun h' => hd ((m4 x hx e).2 h')) c hc h0
        exact ⟨j, by omega, by rw [hold j h1]; exact h2, h3⟩
    · rw [ht]
      rcases Nat.lt_or_ge j s.q.length with h1 | h1
      · rw [hold j h1]
        obtain ⟨h2, h3⟩ := hq.qd j h1
        refine ⟨h2, fun h' => ?_⟩
        by_cases e : s.q.getD j 0 = max (s.rp a) (s.rp b)
        · rw [e] at h3; exact h3 m2
        · exact h3 ((m4 _ h2 e).1 h')
      · obtain rfl : j = s.q.length := by omega
        rw [hnew]
        exact ⟨m1, m3⟩
theorem qlen_merge (s : St) (a b : Nat) : s.q.length ≤ (mergeS s a b).q.length ∧ ∀ j, j < s.q.length → (mergeS s a b).q.getD j 0 = s.q.getD j 0 := by
  unfold mergeS
  split
  · exact ⟨Nat.le_refl _, fun _ _ => rfl⟩
  · exact ⟨by simp, fun j hj => by simp [List.getD_eq_getElem?_getD, List.getElem?_append_left hj]⟩
theorem most_merge (s : St) (a b : Nat) : (mergeS s a b).most = s.most := by unfold mergeS; split <;> rfl
theorem step_q (h : Inv g s) {k c : Nat} (hq : QI g k c s) (hk : k < s.q.length) (hc : c < 2 * g) : QI g k (c + 1) (stepS (s.q.getD k 0) c s) ∧ s.q.length ≤ (stepS (s.q.getD k 0) c s).q.length ∧ (∀ j, j < s.q.length → (stepS (s.q.getD k 0) c s).q.getD j 0 = s.q.getD j 0) ∧ (stepS (s.q.getD k 0) c s).most = s.most := by
  obtain ⟨he, hdead⟩ := hq.qd k hk
  generalize hE : s.q.getD k 0 = e at *
  unfold stepS
  by_cases hd : s.t.at e c < 0
  · rw [if_pos hd]
    refine ⟨⟨fun x hx hdx c' hc' h0 => ?_, hq.qd, hq.cnt, hq.lv⟩, Nat.le_refl _, fun _ _ => rfl, rfl⟩
    obtain ⟨j, h1, h2, h3⟩ := hq.dead x hx hdx c' hc' h0
    refine ⟨j, h1, h2, ?_⟩
    rcases h3 with h3 | ⟨h3, h4⟩
    · exact .inl h3
    · refine .inr ⟨h3, ?_⟩
      rcases Nat.lt_or_ge c c' with h5 | h5
      · exact h5
      · obtain rfl : c = c' := by omega
        rw [← h3, hE] at h2
        rw [← h2] at h0
        omega
  · rw [if_neg hd]
    have hd' : 0 ≤ s.t.at e c := by omega
    have hcut := h.cut he hc hd'
    have hat := at_cut h he hc hd'
    have hdn : (s.t.at e c).toNat < s.t.length := by have := h.bd e he c hc; omega
    have hun := h.rlt he
    have hvn := h.rlt hdn
    have hf := flp_lt2 hc
    have hlen := length_cut s.t e c
    have hq1 : QI g k (c + 1) { s with t := cutT s.t e c } := by
      refine ⟨fun x hx hdx c' hc' h0 => ?_, fun j hj => ?_, ?_, ?_⟩
      · simp only [hlen] at hx
        simp only at h0
        rw [hat] at h0
        by_cases hz : (x = e ∧ c' = c) ∨ (x = (s.t.at e c).toNat ∧ c' = flp c)
        · rw [if_pos hz] at h0; omega
        · rw [if_neg hz] at h0
          obtain ⟨j, h1, h2, h3⟩ := hq.dead x hx hdx c' hc' h0
          refine ⟨j, h1, h2, ?_⟩
          rcases h3 with h3 | ⟨h3, h4⟩
          · exact .inl h3
          · refine .inr ⟨h3, ?_⟩
            rcases Nat.lt_or_ge c c' with h5 | h5
            · exact h5
            · obtain rfl : c = c' := by omega
              rw [← h3, hE] at h2
              exact absurd (.inl ⟨h2.symm, rfl⟩) hz
      · simp only [hlen]; exact hq.qd j hj
      · have := hq.cnt
        unfold dc at this ⊢
        simp only [hlen]
        exact this
      · have := hq.lv
        unfold dc at this ⊢
        simp only [hlen]
        exact this
    generalize hs1 : ({ s with t := cutT s.t e c } : St) = s1 at *
    have ht1 : s1.t = cutT s.t e c := by rw [← hs1]
    have hq1' : s1.q = s.q := by rw [← hs1]
    have hm1 : s1.most = s.most := by rw [← hs1]
    have hrp1 : ∀ x, s1.rp x = s.rp x := fun x => by rw [← hs1]; rfl
    have hn1 : s1.t.length = s.t.length := by rw [ht1, hlen]
    rw [← ht1] at hat ⊢
    by_cases h1 : 0 ≤ s1.t.at (s.rp e) c
    · rw [if_pos h1]
      have hw := (hcut.bd (s.rp e) (by omega) c hc).2
      obtain ⟨l1, l2⟩ := qlen_merge s1 (s1.t.at (s.rp e) c).toNat (s.rp (s.t.at e c).toNat)
      rw [hq1'] at l1 l2
      exact ⟨hq1.merge hcut (.inl (by rw [hq1']; exact hk)) (by omega) (by omega), l1, l2, by rw [most_merge, hm1]⟩
    · rw [if_neg h1]
      by_cases h2 : 0 ≤ s1.t.at (s.rp (s.t.at e c).toNat) (flp c)
      · rw [if_pos h2]
        have hw := (hcut.bd (s.rp (s.t.at e c).toNat) (by omega) (flp c) hf).2
        obtain ⟨l1, l2⟩ := qlen_merge s1 (s1.t.at (s.rp (s.t.at e c).toNat) (flp c)).toNat (s.rp e)
        rw [hq1'] at l1 l2
        exact ⟨hq1.merge hcut (.inl (by rw [hq1']; exact hk)) (by omega) (by omega), l1, l2, by rw [most_merge, hm1]⟩
      · rw [if_neg h2]
        have haj := at_join hcut (u := s.rp e) (v := s.rp (s.t.at e c).toNat) (c := c) (by omega) (by omega) hc
        have hlj := length_join s1.t (s.rp e) c (s.rp (s.t.at e c).toNat)
        refine ⟨⟨fun x hx hdx c' hc' h0 => ?_, fun j hj => ?_, ?_, ?_⟩, Nat.le_refl _, fun _ _ => rfl, rfl⟩
        · simp only [hlj] at hx
          simp only at h0
          have hdx' : s.rp x ≠ x := hdx
          rw [haj, if_neg, if_neg] at h0
          · obtain ⟨j, h3, h4, h5⟩ := hq1.dead x hx (by rw [hrp1]; exact hdx') c' hc' h0
            rw [hq1'] at h3 h4
            exact ⟨j, h3, h4, h5⟩
          · rintro ⟨rfl, -⟩
            exact hdx' (h.rid e he)
          · rintro ⟨rfl, -⟩
            exact hdx' (h.rid _ hdn)
        · simp only [hlj, hn1]; exact hq.qd j hj
        · have := hq.cnt
          unfold dc at this ⊢
          simp only [hlj, hn1]
          exact this
        · have := hq.lv
          unfold dc at this ⊢
          simp only [hlj, hn1]
          exact this
/-- one row of the queue -/
theorem proc_q (h : Inv g s) {k : Nat} (hq : QI g k 0 s) (hk : k < s.q.length) : ∀ c, c ≤ 2 * g → Inv g (procTo (s.q.getD k 0) c s) ∧ Cov g s (procTo (s.q.getD k 0) c s) ∧ QI g k c (procTo (s.q.getD k 0) c s) ∧ s.q.length ≤ (procTo (s.q.getD k 0) c s).q.length ∧ (∀ j, j < s.q.length → (procTo (s.q.getD k 0) c s).q.getD j 0 = s.q.getD j 0) ∧ (procTo (s.q.getD k 0) c s).most = s.most
  | 0, _ => ⟨h, Cov.refl h, hq, Nat.le_refl _, fun _ _ => rfl, rfl⟩
  | c + 1, hc => by
    obtain ⟨h1, h2, h3, h4, h5, h6⟩ := proc_q h hq hk c (by omega)
    have he : (procTo (s.q.getD k 0) c s).q.getD k 0 = s.q.getD k 0 := h5 k hk
    have hst := step_q h1 h3 (by omega) (show c < 2 * g by omega)
    rw [he] at hst
    obtain ⟨k1, k2, k3, k4⟩ := hst
    have hlt : s.q.getD k 0 < (procTo (s.q.getD k 0) c s).t.length := by rw [h2.n]; exact (hq.qd k hk).1
    obtain ⟨c1, c2⟩ := step_cov h1 hlt (show c < 2 * g by omega)
    exact ⟨c1, h2.trans h c2, k1, Nat.le_trans h4 k2, fun j hj => (k3 j (by omega)).trans (h5 j hj), k4.trans h6⟩
/-- the whole queue, as far as k -/
theorem coinTo_inv (h : Inv g s) (hq : QI g 0 0 s) : ∀ k, Inv g (coinTo (2 * g) k s) ∧ Cov g s (coinTo (2 * g) k s) ∧ QI g (min k (coinTo (2 * g) k s).q.length) 0 (coinTo (2 * g) k s) ∧ (coinTo (2 * g) k s).most = s.most
  | 0 => ⟨h, Cov.refl h, by rw [Nat.zero_min]; exact hq, rfl⟩
  | k + 1 => by
    obtain ⟨h1, h2, h3, h4⟩ := coinTo_inv h hq k
    unfold coinTo at h1 h2 h3 h4 ⊢
    rw [foldTo]
    generalize foldTo (fun k s => if k < s.q.length then procTo (s.q.getD k 0) (2 * g) s else s) k s = s1 at *
    by_cases hk : k < s1.q.length
    · rw [if_pos hk]
      rw [show min k s1.q.length = k by omega] at h3
      obtain ⟨p1, p2, p3, p4, -, p6⟩ := proc_q h1 h3 hk (2 * g) (Nat.le_refl _)
      refine ⟨p1, h2.trans h p2, ?_, p6.trans h4⟩
      rw [show min (k + 1) (procTo (s1.q.getD k 0) (2 * g) s1).q.length = k + 1 by omega]
      refine ⟨fun x hx hd c hc h0 => ?_, p3.qd, p3.cnt, p3.lv⟩
      obtain ⟨j, j1, j2, j3⟩ := p3.dead x hx hd c hc h0
      exact ⟨j, j1, j2, by omega⟩
    · rw [if_neg hk]
      refine ⟨h1, h2, ?_, h4⟩
      rw [show min (k + 1) s1.q.length = min k s1.q.length by omega]
      exact h3
/-- a coincidence -/
theorem coin_rest (h : Rest g s) {a b : Nat} (ha : a < s.t.length) (hb : b < s.t.length) : Rest g (coinS (2 * g) s a b) ∧ Cov g s (coinS (2 * g) s a b) ∧ (coinS (2 * g) s a b).rp a = (coinS (2 * g) s a b).rp b ∧ (coinS (2 * g) s a b).most = s.most := by
  have h0 : Inv g { s with q := [] } := ⟨h.inv.len, h.inv.bd, h.inv.rl, h.inv.rle, h.inv.rid, h.inv.back⟩
  have hq0 : QI g 0 0 { s with q := [] } := ⟨fun x hx hd c hc h0 => absurd h0 (by have := h.dead x hx hd c hc; simp only at h0; omega), fun j hj => absurd hj (by simp), Nat.zero_le _, h.lv⟩
  have hm := h0.merge (a := a) (b := b) ha hb
  obtain ⟨hc, he⟩ := Cov.merge h0 (a := a) (b := b) ha hb
  have hqm := hq0.merge h0 (.inr ⟨rfl, rfl⟩) (a := a) (b := b) ha hb
  obtain ⟨r1, r2, r3, r4⟩ := coinTo_inv hm hqm s.t.length
  have hn : (mergeS { s with q := [] } a b).t.length = s.t.length := by rw [t_merge]
  have hC : Cov g { s with q := [] } (coinTo (2 * g) s.t.length (mergeS { s with q := [] } a b)) := hc.trans h0 r2
  have hC' : Cov g s (coinTo (2 * g) s.t.length (mergeS { s with q := [] } a b)) := ⟨hC.n, hC.coarse, hC.edge⟩
  have hfin : (coinTo (2 * g) s.t.length (mergeS { s with q := [] } a b)).q.length ≤ s.t.length := by
    have h1 := r3.cnt
    have h2 := dc_le (coinTo (2 * g) s.t.length (mergeS { s with q := [] } a b))
    have h3 := hC.n
    simp only at h3
    omega
  rw [show min s.t.length (coinTo (2 * g) s.t.length (mergeS { s with q := [] } a b)).q.length = (coinTo (2 * g) s.t.length (mergeS { s with q := [] } a b)).q.length by omega] at r3
  refine ⟨⟨r1, fun x hx hd c hc' => ?_, r3.lv⟩, hC', ?_, ?_⟩
  · rcases Int.lt_or_le ((coinS (2 * g) s a b).t.at x c) 0 with h' | h'
    · exact h'
    · obtain ⟨j, j1, -, j3⟩ := r3.dead x hx hd c hc' h'
      omega
  · unfold coinS
    rw [← r2.coarse a (by rw [hn]; exact ha), ← r2.coarse b (by rw [hn]; exact hb), he]
  · unfold coinS
    rw [r4, most_merge]
end
end Go.Proofs.Ct
namespace Go.Proofs.Ct
/-- s extends s0 (both at rest): classes grow, every edge stays, at the representatives -/
structure Ext (g : Nat) (s0 s : St) : Prop where
  n : s0.t.length ≤ s.t.length
  coarse : ∀ x, x < s0.t.length → s.rp (s0.rp x) = s.rp x
  edge : ∀ x c y, x < s0.t.length → c < 2 * g → Edge s0.t x c y → Edge s.t (s.rp x) c (s.rp y)
section
variable {g : Nat} {s s0 s1 s2 : St}
/-- an edge runs between the living -/
theorem Rest.live (h : Rest g s) {x c y : Nat} (hx : x < s.t.length) (hc : c < 2 * g) (he : Edge s.t x c y) : s.rp x = x ∧ s.rp y = y ∧ y < s.t.length := by
  have hy := he.lt h.inv hx hc
  have hb := he.back h.inv hx hc
  refine ⟨Decidable.byContradiction fun hn => ?_, Decidable.byContradiction fun hn => ?_, hy⟩
  · have := h.dead x hx hn c hc
    unfold Edge at he
    omega
  · have := h.dead y hy hn (flp c) (flp_lt2 hc)
    unfold Edge at hb
    omega
theorem Ext.refl (h : Rest g s) : Ext g s s := ⟨Nat.le_refl _, fun x hx => h.inv.rid x hx, fun x c y hx hc he => by
  obtain ⟨h1, h2, -⟩ := h.live hx hc he
  rw [h1, h2]
  exact he⟩
theorem Ext.trans (h0 : Rest g s0) (h1 : Rest g s1) (a : Ext g s0 s1) (b : Ext g s1 s2) : Ext g s0 s2 := by
  have hr : ∀ x, x < s0.t.length → s1.rp x < s1.t.length := fun x hx => h1.inv.rlt (Nat.lt_of_lt_of_le hx a.n)
  have hb : ∀ x, x < s0.t.length → s2.rp (s1.rp x) = s2.rp x := fun x hx => b.coarse x (Nat.lt_of_lt_of_le hx a.n)
  refine ⟨Nat.le_trans a.n b.n, fun x hx => ?_, fun x c y hx hc he => ?_⟩
  · rw [← hb _ (h0.inv.rlt hx), a.coarse x hx, hb x hx]
  · have hy := he.lt h0.inv hx hc
    have := b.edge _ c _ (hr x hx) hc (a.edge x c y hx hc he)
    rwa [hb x hx, hb y hy] at this
theorem Ext.of_cov (h1 : Rest g s1) (h : Cov g s0 s1) : Ext g s0 s1 := ⟨by rw [h.n]; exact Nat.le_refl _, h.coarse, fun x c y hx hc he => by
  obtain ⟨u, v, hu, -, e1, e2, e3⟩ := h.edge x c y hx hc he
  obtain ⟨h2, h3, -⟩ := h1.live (by rw [h.n]; exact hu) hc e1
  rw [← e2, ← e3, h2, h3]
  exact e1⟩
theorem rp_zero (h : Rest g s) (hn : 1 ≤ s.t.length) : s.rp 0 = 0 := by have := h.inv.rle 0 hn; omega
/-- a coset more -/
def addS (m : Nat) (s : St) : St := { t := s.t ++ [List.replicate m (-1)], rep := s.rep ++ [s.t.length], q := s.q, live := s.live + 1, most := max s.most (s.live + 1) }
theorem row_add_old (m : Nat) {x : Nat} (hx : x < s.t.length) : (addS m s).t.row x = s.t.row x := by
  unfold addS Tb.row
  simp [List.getD_eq_getElem?_getD, List.getElem?_append_left hx]
theorem row_add_new (m : Nat) : (addS m s).t.row s.t.length = List.replicate m (-1) := by
  unfold addS Tb.row
  simp [List.getD_eq_getElem?_getD]
theorem at_add_old (m : Nat) {x : Nat} (hx : x < s.t.length) (c : Nat) : (addS m s).t.at x c = s.t.at x c := by unfold Tb.at; rw [row_add_old m hx]
theorem at_add_new (m c : Nat) (hc : c < m) : (addS m s).t.at s.t.length c = -1 := by unfold Tb.at; rw [row_add_new]; simp [List.getD_eq_getElem?_getD, hc]
theorem length_add (m : Nat) : (addS m s).t.length = s.t.length + 1 := by simp [addS]
theorem rp_add_old (h : Inv g s) (m : Nat) {x : Nat} (hx : x < s.t.length) : (addS m s).rp x = s.rp x := by
  unfold addS St.rp
  simp [List.getD_eq_getElem?_getD, List.getElem?_append_left (by rw [h.rl]; exact hx : x < s.rep.length)]
theorem rp_add_new (h : Inv g s) (m : Nat) : (addS m s).rp s.t.length = s.t.length := by
  unfold addS St.rp
  simp [List.getD_eq_getElem?_getD, ← h.rl]
theorem Inv.add (h : Inv g s) : Inv g (addS (2 * g) s) := by
  refine ⟨fun r hr => ?_, fun r hr c hc => ?_, ?_, fun x hx => ?_, fun x hx => ?_, fun r hr c hc h0 => ?_⟩
  all_goals first | rw [length_add] at hr | rw [length_add] at hx | skip
  · rcases Nat.lt_or_ge r s.t.length with h1 | h1
    · rw [row_add_old _ h1]; exact h.len r h1
    · obtain rfl : r = s.t.length := by omega
      rw [row_add_new]; simp
  · rw [length_add]
    rcases Nat.lt_or_ge r s.t.length with h1 | h1
    · rw [at_add_old _ h1]; have := h.bd r h1 c hc; omega
    · obtain rfl : r = s.t.length := by omega
      rw [at_add_new _ _ hc]; omega
  · rw [length_add]; simp [addS, h.rl]
  · rcases Nat.lt_or_ge x s.t.length with h1 | h1
    · rw [rp_add_old h _ h1]; exact h.rle x h1
    · obtain rfl : x = s.t.length := by omega
      rw [rp_add_new h]; exact Nat.le_refl _
  · rcases Nat.lt_or_ge x s.t.length with h1 | h1
    · rw [rp_add_old h _ h1, rp_add_old h _ (h.rlt h1)]; exact h.rid x h1
    · obtain rfl : x = s.t.length := by omega
      rw [rp_add_new h, rp_add_new h]
  · rcases Nat.lt_or_ge r s.t.length with h1 | h1
    · rw [at_add_old _ h1] at h0 ⊢
      have := (h.bd r h1 c hc).2
      rw [at_add_old _ (by omega)]
      exact h.back r h1 c hc h0
    · obtain rfl : r = s.t.length := by omega
      rw [at_add_new _ _ hc] at h0
      omega
theorem dc_add (h : Inv g s) (m : Nat) : dc (addS m s) = dc s := by
  unfold dc
  rw [length_add, List.range_succ, List.countP_append]
  have h1 : (List.range s.t.length).countP (fun x => decide ((addS m s).rp x ≠ x)) = (List.range s.t.length).countP (fun x => decide (s.rp x ≠ x)) := List.countP_congr fun x hx => by
    rw [rp_add_old h m (by simpa using hx)]
  rw [h1]
  simp [rp_add_new h m]
theorem Rest.add (h : Rest g s) : Rest g (addS (2 * g) s) := by
  refine ⟨h.inv.add, fun x hx hd c hc => ?_, ?_⟩
  · rw [length_add] at hx
    rcases Nat.lt_or_ge x s.t.length with h1 | h1
    · rw [at_add_old _ h1]
      rw [rp_add_old h.inv _ h1] at hd
      exact h.dead x h1 hd c hc
    · obtain rfl : x = s.t.length := by omega
      rw [rp_add_new h.inv] at hd
      exact absurd rfl hd
  · rw [dc_add h.inv, length_add]
    have := h.lv
    show s.live + 1 + _ = _
    omega
theorem Ext.add (h : Rest g s) : Ext g s (addS (2 * g) s) := ⟨by rw [length_add]; omega, fun x hx => by rw [rp_add_old h.inv _ hx, rp_add_old h.inv _ (h.inv.rlt hx), h.inv.rid x hx], fun x c y hx hc he => by
  obtain ⟨h1, h2, h3⟩ := h.live hx hc he
  rw [rp_add_old h.inv _ hx, rp_add_old h.inv _ h3, h1, h2]
  unfold Edge
  rw [at_add_old _ hx]
  exact he⟩
/-- two cosets are made neighbours -/
def joinS (s : St) (u c v : Nat) : St := { s with t := joinT s.t u c v }
theorem rp_joinS (u c v x : Nat) : (joinS s u c v).rp x = s.rp x := rfl
theorem length_joinS (u c v : Nat) : (joinS s u c v).t.length = s.t.length := length_join _ _ _ _
theorem Rest.join (h : Rest g s) {u v c : Nat} (hu : u < s.t.length) (hv : v < s.t.length) (hc : c < 2 * g) (hlu : s.rp u = u) (hlv : s.rp v = v) (h1 : s.t.at u c < 0) (h2 : s.t.at v (flp c) < 0) : Rest g (joinS s u c v) ∧ Ext g s (joinS s u c v) ∧ Edge (joinS s u c v).t u c v := by
  have hI := h.inv.join hu hv hc h1 h2
  have hat := at_join h.inv hu hv hc
  have hlen := length_join s.t u c v
  refine ⟨⟨hI, fun x hx hd c' hc' => ?_, ?_⟩, ⟨by rw [length_joinS]; exact Nat.le_refl _, fun x hx => h.inv.rid x hx, fun x c' y hx hc' he => ?_⟩, ?_⟩
  · simp only [joinS, hlen] at hx
    have hd' : s.rp x ≠ x := hd
    show (joinT s.t u c v).at x c' < 0
    rw [hat, if_neg, if_neg]
    · exact h.dead x hx hd' c' hc'
    · rintro ⟨rfl, -⟩; exact hd' hlu
    · rintro ⟨rfl, -⟩; exact hd' hlv
  · have := h.lv
    unfold dc at this ⊢
    simp only [joinS, hlen]
    exact this
  · obtain ⟨k1, k2, -⟩ := h.live hx hc' he
    rw [rp_joinS, rp_joinS, k1, k2]
    unfold Edge at he ⊢
    show (joinT s.t u c v).at x c' = _
    rw [hat, if_neg, if_neg]
    · exact he
    · rintro ⟨rfl, rfl⟩; omega
    · rintro ⟨rfl, rfl⟩; omega
  · show (joinT s.t u c v).at u c = _
    rw [hat, if_neg (fun h' => flp_ne c h'.2.symm), if_pos ⟨rfl, rfl⟩]
/-- a coset is defined -/
def defS (m : Nat) (s : St) (r c : Nat) : St := joinS (addS m s) r c s.t.length
theorem length_def (m r c : Nat) : (defS m s r c).t.length = s.t.length + 1 := by unfold defS; rw [length_joinS, length_add]
theorem rp_def_old (h : Inv g s) (m r c : Nat) {x : Nat} (hx : x < s.t.length) : (defS m s r c).rp x = s.rp x := rp_add_old h m hx
theorem rp_def_new (h : Inv g s) (m r c : Nat) : (defS m s r c).rp s.t.length = s.t.length := rp_add_new h m
theorem Rest.defn (h : Rest g s) {r c : Nat} (hr : r < s.t.length) (hc : c < 2 * g) (hl : s.rp r = r) (h1 : s.t.at r c < 0) : Rest g (defS (2 * g) s r c) ∧ Ext g s (defS (2 * g) s r c) ∧ Edge (defS (2 * g) s r c).t r c s.t.length := by
  obtain ⟨a, b, d⟩ := h.add.join (u := r) (v := s.t.length) (c := c) (by rw [length_add]; omega) (by rw [length_add]; omega) hc (by rw [rp_add_old h.inv _ hr]; exact hl) (rp_add_new h.inv _) (by rw [at_add_old _ hr]; exact h1) (by rw [at_add_new _ _ (flp_lt2 hc)]; omega)
  exact ⟨a, (Ext.add h).trans h h.add b, d⟩
/-- a word's way leads from the living to the living -/
theorem lead_live (h : Rest g s) {ws : W} (hl : ∀ x ∈ ws, -(g : Int) ≤ x ∧ x ≤ g ∧ x ≠ 0) {r : Nat} (hr : r < s.t.length) (hlr : s.rp r = r) : ∀ k, k ≤ ws.length → 0 ≤ leadTo s.t r ws k → (leadTo s.t r ws k).toNat < s.t.length ∧ s.rp (leadTo s.t r ws k).toNat = (leadTo s.t r ws k).toNat
  | 0, _, _ => by
    show ((r : Int)).toNat < _ ∧ s.rp ((r : Int)).toNat = _
    rw [Int.toNat_natCast]
    exact ⟨hr, hlr⟩
  | k + 1, hk, h0 => by
    rw [leadTo_succ] at h0 ⊢
    by_cases hn : leadTo s.t r ws k < 0
    · rw [if_pos hn] at h0; omega
    · rw [if_neg hn] at h0 ⊢
      obtain ⟨h1, h2⟩ := lead_live h hl hr hlr k (by omega) (by omega)
      have hx : -(g : Int) ≤ ws.getD k 0 ∧ ws.getD k 0 ≤ g ∧ ws.getD k 0 ≠ 0 := by
        rw [List.getD_eq_getElem?_getD, List.getElem?_eq_getElem (by omega : k < ws.length)]
        exact hl _ (List.getElem_mem _)
      have hc : col (ws.getD k 0) < 2 * g := by unfold col; split <;> omega
      obtain ⟨y, hy⟩ := Int.eq_ofNat_of_zero_le h0
      obtain ⟨-, h3, h4⟩ := h.live h1 hc (show Edge s.t _ _ y from hy)
      rw [hy, Int.toNat_natCast]
      exact ⟨h4, h3⟩
end
/-- how far a word's way goes; how far its inverse's way goes back, at most to i -/
def fwd (t : Tb) (r : Int) (w : W) : Nat := (first (fun k => decide (k = w.length) || decide (leadTo t r w (k + 1) < 0)) (w.length + 1)).getD 0
def bwd (t : Tb) (r : Int) (w : W) (i : Nat) : Nat := (first (fun k => decide (w.length ≤ i + k) || decide (leadTo t r (inv w) (k + 1) < 0)) (w.length + 1)).getD 0
theorem fwd_eq {t : Tb} {r : Int} {w : W} {k : Nat} (hk : k ≤ w.length) (h1 : k = w.length ∨ leadTo t r w (k + 1) < 0) (h2 : ∀ j, j < k → 0 ≤ leadTo t r w (j + 1)) : fwd t r w = k := by
  unfold fwd
  rw [first_some (k := k) (by omega) (by simpa using h1) (fun j hj => by have := h2 j hj; simp; omega)]
  rfl
theorem fwd_spec (t : Tb) (r : Int) (w : W) : fwd t r w ≤ w.length ∧ (fwd t r w = w.length ∨ leadTo t r w (fwd t r w + 1) < 0) ∧ ∀ j, j < fwd t r w → 0 ≤ leadTo t r w (j + 1) := by
  unfold fwd
  cases hf : first (fun k => decide (k = w.length) || decide (leadTo t r w (k + 1) < 0)) (w.length + 1) with
  | none =>
    have := first_none' hf w.length (by omega)
    simp at this
  | some k =>
    obtain ⟨h1, h2, h3⟩ := first_some' hf
    refine ⟨by show k ≤ _; omega, by simpa using h2, fun j hj => ?_⟩
    have := h3 j hj
    simp at this
    omega
theorem bwd_eq {t : Tb} {r : Int} {w : W} {i k : Nat} (hk : k ≤ w.length) (h1 : w.length ≤ i + k ∨ leadTo t r (inv w) (k + 1) < 0) (h2 : ∀ j, j < k → i + j < w.length ∧ 0 ≤ leadTo t r (inv w) (j + 1)) : bwd t r w i = k := by
  unfold bwd
  rw [first_some (k := k) (by omega) (by simpa using h1) (fun j hj => by have := h2 j hj; simp; omega)]
  rfl
theorem bwd_spec (t : Tb) (r : Int) (w : W) (i : Nat) : bwd t r w i ≤ w.length ∧ (w.length ≤ i + bwd t r w i ∨ leadTo t r (inv w) (bwd t r w i + 1) < 0) ∧ ∀ j, j < bwd t r w i → i + j < w.length ∧ 0 ≤ leadTo t r (inv w) (j + 1) := by
  unfold bwd
  cases hf : first (fun k => decide (w.length ≤ i + k) || decide (leadTo t r (inv w) (k + 1) < 0)) (w.length + 1) with
  | none =>
    have := first_none' hf w.length (by omega)
    simp at this
  | some k =>
    obtain ⟨h1, h2, h3⟩ := first_some' hf
    refine ⟨by show k ≤ _; omega, by simpa using h2, fun j hj => ?_⟩
    have := h3 j hj
    simp at this
    omega
/-- a scan: the state behind it, and where it is open -/
def scanS (m : Nat) (s : St) (r : Nat) (w : W) : St × Option (Nat × Nat) :=
  if fwd s.t r w = w.length then (if leadTo s.t r w (fwd s.t r w) = (r : Int) then s else coinS m s (leadTo s.t r w (fwd s.t r w)).toNat r, none) else
  if w.length ≤ fwd s.t r w + bwd s.t r w (fwd s.t r w) then (coinS m s (leadTo s.t r w (fwd s.t r w)).toNat (leadTo s.t r (inv w) (bwd s.t r w (fwd s.t r w))).toNat, none) else
  if w.length = fwd s.t r w + bwd s.t r w (fwd s.t r w) + 1 then (joinS s (leadTo s.t r w (fwd s.t r w)).toNat (col (w.getD (fwd s.t r w) 0)) (leadTo s.t r (inv w) (bwd s.t r w (fwd s.t r w))).toNat, none) else
  (s, some ((leadTo s.t r w (fwd s.t r w)).toNat, col (w.getD (fwd s.t r w) 0)))
/-- filling: none if there is no room -/
def fillF (m lim : Nat) : Nat → St → Nat → W → Option St
  | 0, _, _, _ => none
  | fuel + 1, s, r, w => match scanS m s r w with
    | (s', none) => some s'
    | (_, some (f, c)) => if s.t.length = lim then none else fillF m lim fuel (defS m s f c) r w
def fillS (m lim : Nat) (s : St) (r : Nat) (w : W) : Option St := fillF m lim (lim + 1 - s.t.length) s r w
theorem fillS_step {m lim : Nat} {s : St} {r : Nat} {w : W} (h : s.t.length ≤ lim) : fillS m lim s r w = match scanS m s r w with
    | (s', none) => some s'
    | (_, some (f, c)) => if s.t.length = lim then none else fillS m lim (defS m s f c) r w := by
  unfold fillS
  rw [show lim + 1 - s.t.length = (lim - s.t.length) + 1 by omega, fillF]
  cases scanS m s r w with
  | mk s' o =>
    cases o with
    | none => rfl
    | some fc =>
      simp only
      split
      · rfl
      · rw [length_def, show lim + 1 - (s.t.length + 1) = lim - s.t.length by omega]
section
variable {g : Nat} {s : St}
def LOk (g : Nat) (w : W) : Prop := ∀ x ∈ w, -(g : Int) ≤ x ∧ x ≤ g ∧ x ≠ 0
theorem LOk.inv {w : W} (h : LOk g w) : LOk g (inv w) := fun x hx => by
  have := h _ (mem_inv hx)
  omega
theorem LOk.getD {w : W} (h : LOk g w) {k : Nat} (hk : k < w.length) : -(g : Int) ≤ w.getD k 0 ∧ w.getD k 0 ≤ g ∧ w.getD k 0 ≠ 0 := by
  rw [List.getD_eq_getElem?_getD, List.getElem?_eq_getElem hk]
  exact h _ (List.getElem_mem hk)
theorem LOk.col {w : W} (h : LOk g w) {k : Nat} (hk : k < w.length) : col (w.getD k 0) < 2 * g := by
  have := h.getD hk
  unfold Ct.col
  split <;> omega
theorem col_inv {x : Int} (h : x ≠ 0) : col (-x) = flp (col x) := by
  unfold col flp
  split <;> split <;> split <;> omega
theorem inv_getD {w : W} {k : Nat} (hk : k < w.length) : (Ct.inv w).getD k 0 = -(w.getD (w.length - 1 - k) 0) := by
  unfold Ct.inv
  simp [List.getD_eq_getElem?_getD, hk, show w.length - 1 - k < w.length by omega]
theorem fwd_pos (t : Tb) (r : Nat) (w : W) : 0 ≤ leadTo t r w (fwd t r w) := by
  obtain ⟨-, -, h⟩ := fwd_spec t r w
  rcases Nat.eq_zero_or_pos (fwd t r w) with e | e
  · rw [e]; exact Int.natCast_nonneg r
  · have := h (fwd t r w - 1) (by omega)
    rwa [show fwd t r w - 1 + 1 = fwd t r w by omega] at this
theorem bwd_pos (t : Tb) (r : Nat) (w : W) (i : Nat) : 0 ≤ leadTo t r (inv w) (bwd t r w i) := by
  obtain ⟨-, -, h⟩ := bwd_spec t r w i
  rcases Nat.eq_zero_or_pos (bwd t r w i) with e | e
  · rw [e]; exact Int.natCast_nonneg r
  · have := (h (bwd t r w i - 1) (by omega)).2
    rwa [show bwd t r w i - 1 + 1 = bwd t r w i by omega] at this
/-- a scan keeps the rest, and says where a coset can be defined -/
theorem scan_rest (h : Rest g s) {r : Nat} (hr : r < s.t.length) (hlr : s.rp r = r) {w : W} (hw : LOk g w) :
    (∀ s', scanS (2 * g) s r w = (s', none) → Rest g s' ∧ Ext g s s' ∧ s'.t.length = s.t.length ∧ s'.most = s.most) ∧
    (∀ s' f c, scanS (2 * g) s r w = (s', some (f, c)) → s' = s ∧ f < s.t.length ∧ c < 2 * g ∧ s.rp f = f ∧ s.t.at f c < 0) := by
  obtain ⟨f1, f2, f3⟩ := fwd_spec s.t r w
  have fp := fwd_pos s.t r w
  obtain ⟨b1, b2, b3⟩ := bwd_spec s.t r w (fwd s.t r w)
  have bp := bwd_pos s.t r w (fwd s.t r w)
  obtain ⟨fl, flv⟩ := lead_live h hw hr hlr _ f1 fp
  obtain ⟨bl, blv⟩ := lead_live h hw.inv hr hlr _ (by rw [length_inv]; exact b1) bp
  have hnext : fwd s.t r w < w.length → s.t.at (leadTo s.t r w (fwd s.t r w)).toNat (col (w.getD (fwd s.t r w) 0)) < 0 := fun hlt => by
    rcases f2 with f2 | f2
    · omega
    · rw [leadTo_succ, if_neg (by omega)] at f2
      exact f2
  have hback : ¬ w.length ≤ fwd s.t r w + bwd s.t r w (fwd s.t r w) → s.t.at (leadTo s.t r (Ct.inv w) (bwd s.t r w (fwd s.t r w))).toNat (col ((Ct.inv w).getD (bwd s.t r w (fwd s.t r w)) 0)) < 0 := fun hlt => by
    rcases b2 with b2 | b2
    · omega
    · rw [leadTo_succ, if_neg (by omega)] at b2
      exact b2
  unfold scanS
  generalize hi : fwd s.t r w = i at *
  generalize hk : bwd s.t r w i = k at *
  generalize leadTo s.t r w i = f at *
  generalize leadTo s.t r (Ct.inv w) k = b at *
  by_cases h1 : i = w.length
  · rw [if_pos h1]
    refine ⟨fun s' e => ?_, fun s' f' c' e => by cases e⟩
    by_cases h2 : f = (r : Int)
    · rw [if_pos h2] at e
      cases e
      exact ⟨h, Ext.refl h, rfl, rfl⟩
    · rw [if_neg h2] at e
      cases e
      obtain ⟨c1, c2, -, c4⟩ := coin_rest h fl hr
      exact ⟨c1, Ext.of_cov c1 c2, c2.n, c4⟩
  · rw [if_neg h1]
    by_cases h2 : w.length ≤ i + k
    · rw [if_pos h2]
      refine ⟨fun s' e => ?_, fun s' f' c' e => by cases e⟩
      cases e
      obtain ⟨c1, c2, -, c4⟩ := coin_rest h fl bl
      exact ⟨c1, Ext.of_cov c1 c2, c2.n, c4⟩
    · rw [if_neg h2]
      have hil : i < w.length := by omega
      by_cases h3 : w.length = i + k + 1
      · rw [if_pos h3]
        refine ⟨fun s' e => ?_, fun s' f' c' e => by cases e⟩
        cases e
        have hb := hback h2
        rw [inv_getD (by omega), show w.length - 1 - k = i by omega, col_inv (hw.getD hil).2.2] at hb
        obtain ⟨c1, c2, -⟩ := h.join fl bl (hw.col hil) flv blv (hnext hil) hb
        exact ⟨c1, c2, length_joinS _ _ _, rfl⟩
      · rw [if_neg h3]
        refine ⟨fun s' e => (by cases e), fun s' f' c' e => ?_⟩
        cases e
        exact ⟨rfl, fl, hw.col hil, flv, hnext hil⟩
end
end Go.Proofs.Ct
