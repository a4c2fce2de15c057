/- Coset enumeration, plainly: what a state that goes on keeps; adding, defining, joining, scanning, filling; Coset enumeration, plainly: the whole procedure, and the table it ends with; Ways of words; what was scanned is closed; The standard table, plainly: what a walk along the order shows; Coset enumeration, plainly: the table of the living, and that it can be made standard; What an enumeration ends with, plainly: relators are closed everywhere, the subgroup's words at 0; the table of the living. -/
import Derived.Test.YtffkmchmakfcpaaOrCS1
namespace Go.Proofs.Ct
/-- s extends s0 (both at rest): classes grow, every edge stays, at the representatives -/
structure Ext (g : Nat) (s0 s : St) : Prop where
  n : s0.t.length ≤ s.t.length
  coarse : ∀ x, x < s0.t.length → s.rp (s0.rp x) = s.rp x
  edge : ∀ x c y, x < s0.t.length → c < 2 * g → Edge s0.t x c y → Edge s.t (s.rp x) c (s.rp y)
section
variable {g : Nat} {s s0 s1 s2 : St}
/-- an edge runs between the living -/
theorem Rest.live (h : Rest g s) {x c y : Nat} (hx : x < s.t.length) (hc : c < 2 * g) (he : Edge s.t x c y) : s.rp x = x ∧ s.rp y = y ∧ y < s.t.length := by
  have hy := he.lt h.inv hx hc
  have hb := he.back h.inv hx hc
  refine ⟨Decidable.byContradiction fun hn => ?_, Decidable.byContradiction fun hn => ?_, hy⟩
  · have := h.dead x hx hn c hc
    unfold Edge at he
    omega
  · have := h.dead y hy hn (flp c) (flp_lt2 hc)
    unfold Edge at hb
    omega
theorem Ext.refl (h : Rest g s) : Ext g s s := ⟨Nat.le_refl _, fun x hx => h.inv.rid x hx, fun x c y hx hc he => by
  obtain ⟨h1, h2, -⟩ := h.live hx hc he
  rw [h1, h2]
  exact he⟩
theorem Ext.trans (h0 : Rest g s0) (h1 : Rest g s1) (a : Ext g s0 s1) (b : Ext g s1 s2) : Ext g s0 s2 := by
  have hr : ∀ x, x < s0.t.length → s1.rp x < s1.t.length := fun x hx => h1.inv.rlt (Nat.lt_of_lt_of_le hx a.n)
  have hb : ∀ x, x < s0.t.length → s2.rp (s1.rp x) = s2.rp x := fun x hx => b.coarse x (Nat.lt_of_lt_of_le hx a.n)
  refine ⟨Nat.le_trans a.n b.n, fun x hx => ?_, fun x c y hx hc he => ?_⟩
  · rw [← hb _ (h0.inv.rlt hx), a.coarse x hx, hb x hx]
  · have hy := he.lt h0.inv hx hc
    have := b.edge _ c _ (hr x hx) hc (a.edge x c y hx hc he)
    rwa [hb x hx, hb y hy] at this
theorem Ext.of_cov (h1 : Rest g s1) (h : Cov g s0 s1) : Ext g s0 s1 := ⟨by rw [h.n]; exact Nat.le_refl _, h.coarse, fun x c y hx hc he => by
  obtain ⟨u, v, hu, -, e1, e2, e3⟩ := h.edge x c y hx hc he
  obtain ⟨h2, h3, -⟩ := h1.live (by rw [h.n]; exact hu) hc e1
  rw [← e2, ← e3, h2, h3]
  exact e1⟩
theorem rp_zero (h : Rest g s) (hn : 1 ≤ s.t.length) : s.rp 0 = 0 := by have := h.inv.rle 0 hn; omega
/-- a coset more -/
def addS (m : Nat) (s : St) : St := { t := s.t ++ [List.replicate m (-1)], rep := s.rep ++ [s.t.length], q := s.q, live := s.live + 1, most := max s.most (s.live + 1) }
theorem row_add_old (m : Nat) {x : Nat} (hx : x < s.t.length) : (addS m s).t.row x = s.t.row x := by
  unfold addS Tb.row
  simp [List.getD_eq_getElem?_getD, List.getElem?_append_left hx]
theorem row_add_new (m : Nat) : (addS m s).t.row s.t.length = List.replicate m (-1) := by
  unfold addS Tb.row
  simp [List.getD_eq_getElem?_getD]
theorem at_add_old (m : Nat) {x : Nat} (hx : x < s.t.length) (c : Nat) : (addS m s).t.at x c = s.t.at x c := by unfold Tb.at; rw [row_add_old m hx]
theorem at_add_new (m c : Nat) (hc : c < m) : (addS m s).t.at s.t.length c = -1 := by unfold Tb.at; rw [row_add_new]; simp [List.getD_eq_getElem?_getD, hc]
theorem length_add (m : Nat) : (addS m s).t.length = s.t.length + 1 := by simp [addS]
theorem rp_add_old (h : Inv g s) (m : Nat) {x : Nat} (hx : x < s.t.length) : (addS m s).rp x = s.rp x := by
  unfold addS St.rp
  simp [List.getD_eq_getElem?_getD, List.getElem?_append_left (by rw [h.rl]; exact hx : x < s.rep.length)]
theorem rp_add_new (h : Inv g s) (m : Nat) : (addS m s).rp s.t.length = s.t.length := by
  unfold addS St.rp
  simp [List.getD_eq_getElem?_getD, ← h.rl]
theorem Inv.add (h : Inv g s) : Inv g (addS (2 * g) s) := by
  refine ⟨fun r hr => ?_, fun r hr c hc => ?_, ?_, fun x hx => ?_, fun x hx => ?_, fun r hr c hc h0 => ?_⟩
  all_goals first | rw [length_add] at hr | rw [length_add] at hx | skip
  · rcases Nat.lt_or_ge r s.t.length with h1 | h1
    · rw [row_add_old _ h1]; exact h.len r h1
    · obtain rfl : r = s.t.length := by omega
      rw [row_add_new]; simp
  · rw [length_add]
    rcases Nat.lt_or_ge r s.t.length with h1 | h1
    · rw [at_add_old _ h1]; have := h.bd r h1 c hc; omega
    · obtain rfl : r = s.t.length := by omega
      rw [at_add_new _ _ hc]; omega
  · rw [length_add]; simp [addS, h.rl]
  · rcases Nat.lt_or_ge x s.t.length with h1 | h1
    · rw [rp_add_old h _ h1]; exact h.rle x h1
    · obtain rfl : x = s.t.length := by omega
      rw [rp_add_new h]; exact Nat.le_refl _
  · rcases Nat.lt_or_ge x s.t.length with h1 | h1
    · rw [rp_add_old h _ h1, rp_add_old h _ (h.rlt h1)]; exact h.rid x h1
    · obtain rfl : x = s.t.length := by omega
      rw [rp_add_new h, rp_add_new h]
  · rcases Nat.lt_or_ge r s.t.length with h1 | h1
    · rw [at_add_old _ h1] at h0 ⊢
      have := (h.bd r h1 c hc).2
      rw [at_add_old _ (by omega)]
      exact h.back r h1 c hc h0
    · obtain rfl : r = s.t.length := by omega
      rw [at_add_new _ _ hc] at h0
      omega
theorem dc_add (h : Inv g s) (m : Nat) : dc (addS m s) = dc s := by
  unfold dc
  rw [length_add, List.range_succ, List.countP_append]
  have h1 : (List.range s.t.length).countP (fun x => decide ((addS m s).rp x ≠ x)) = (List.range s.t.length).countP (fun x => decide (s.rp x ≠ x)) := List.countP_congr fun x hx => by
    rw [rp_add_old h m (by simpa using hx)]
  rw [h1]
  simp [rp_add_new h m]
theorem Rest.add (h : Rest g s) : Rest g (addS (2 * g) s) := by
  refine ⟨h.inv.add, fun x hx hd c hc => ?_, ?_⟩
  · rw [length_add] at hx
    rcases Nat.lt_or_ge x s.t.length with h1 | h1
    · rw [at_add_old _ h1]
      rw [rp_add_old h.inv _ h1] at hd
      exact h.dead x h1 hd c hc
    · obtain rfl : x = s.t.length := by omega
      rw [rp_add_new h.inv] at hd
      exact absurd rfl hd
  · rw [dc_add h.inv, length_add]
    have := h.lv
    show s.live + 1 + _ = _
    omega
theorem Ext.add (h : Rest g s) : Ext g s (addS (2 * g) s) := ⟨by rw [length_add]; omega, fun x hx => by rw [rp_add_old h.inv _ hx, rp_add_old h.inv _ (h.inv.rlt hx), h.inv.rid x hx], fun x c y hx hc he => by
  obtain ⟨h1, h2, h3⟩ := h.live hx hc he
  rw [rp_add_old h.inv _ hx, rp_add_old h.inv _ h3, h1, h2]
  unfold Edge
  rw [at_add_old _ hx]
  exact he⟩
/-- two cosets are made neighbours -/
def joinS (s : St) (u c v : Nat) : St := { s with t := joinT s.t u c v }
theorem rp_joinS (u c v x : Nat) : (joinS s u c v).rp x = s.rp x := rfl
theorem length_joinS (u c v : Nat) : (joinS s u c v).t.length = s.t.length := length_join _ _ _ _
theorem Rest.join (h : Rest g s) {u v c : Nat} (hu : u < s.t.length) (hv : v < s.t.length) (hc : c < 2 * g) (hlu : s.rp u = u) (hlv : s.rp v = v) (h1 : s.t.at u c < 0) (h2 : s.t.at v (flp c) < 0) : Rest g (joinS s u c v) ∧ Ext g s (joinS s u c v) ∧ Edge (joinS s u c v).t u c v := by
  have hI := h.inv.join hu hv hc h1 h2
  have hat := at_join h.inv hu hv hc
  have hlen := length_join s.t u c v
  refine ⟨⟨hI, fun x hx hd c' hc' => ?_, ?_⟩, ⟨by rw [length_joinS]; exact Nat.le_refl _, fun x hx => h.inv.rid x hx, fun x c' y hx hc' he => ?_⟩, ?_⟩
  · simp only [joinS, hlen] at hx
    have hd' : s.rp x ≠ x := hd
    show (joinT s.t u c v).at x c' < 0
    rw [hat, if_neg, if_neg]
    · exact h.dead x hx hd' c' hc'
    · rintro ⟨rfl, -⟩; exact hd' hlu
    · rintro ⟨rfl, -⟩; exact hd' hlv
  · have := h.lv
    unfold dc at this ⊢
    simp only [joinS, hlen]
    exact this
  · obtain ⟨k1, k2, -⟩ := h.live hx hc' he
    rw [rp_joinS, rp_joinS, k1, k2]
    unfold Edge at he ⊢
    show (joinT s.t u c v).at x c' = _
    rw [hat, if_neg, if_neg]
    · exact he
    · rintro ⟨rfl, rfl⟩; omega
    · rintro ⟨rfl, rfl⟩; omega
  · show (joinT s.t u c v).at u c = _
    rw [hat, if_neg (fun h' => flp_ne c h'.2.symm), if_pos ⟨rfl, rfl⟩]
/-- a coset is defined -/
def defS (m : Nat) (s : St) (r c : Nat) : St := joinS (addS m s) r c s.t.length
theorem length_def (m r c : Nat) : (defS m s r c).t.length = s.t.length + 1 := by unfold defS; rw [length_joinS, length_add]
theorem rp_def_old (h : Inv g s) (m r c : Nat) {x : Nat} (hx : x < s.t.length) : (defS m s r c).rp x = s.rp x := rp_add_old h m hx
theorem rp_def_new (h : Inv g s) (m r c : Nat) : (defS m s r c).rp s.t.length = s.t.length := rp_add_new h m
theorem Rest.defn (h : Rest g s) {r c : Nat} (hr : r < s.t.length) (hc : c < 2 * g) (hl : s.rp r = r) (h1 : s.t.at r c < 0) : Rest g (defS (2 * g) s r c) ∧ Ext g s (defS (2 * g) s r c) ∧ Edge (defS (2 * g) s r c).t r c s.t.length := by
  obtain ⟨a, b, d⟩ := h.add.join (u := r) (v := s.t.length) (c := c) (by rw [length_add]; omega) (by rw [length_add]; omega) hc (by rw [rp_add_old h.inv _ hr]; exact hl) (rp_add_new h.inv _) (by rw [at_add_old _ hr]; exact h1) (by rw [at_add_new _ _ (flp_lt2 hc)]; omega)
  exact ⟨a, (Ext.add h).trans h h.add b, d⟩
/-- a word's way leads from the living to the living -/
theorem lead_live (h : Rest g s) {ws : W} (hl : ∀ x ∈ ws, -(g : Int) ≤ x ∧ x ≤ g ∧ x ≠ 0) {r : Nat} (hr : r < s.t.length) (hlr : s.rp r = r) : ∀ k, k ≤ ws.length → 0 ≤ leadTo s.t r ws k → (leadTo s.t r ws k).toNat < s.t.length ∧ s.rp (leadTo s.t r ws k).toNat = (leadTo s.t r ws k).toNat
  | 0, _, _ => by
    show ((r : Int)).toNat < _ ∧ s.rp ((r : Int)).toNat = _
    rw [Int.toNat_natCast]
    exact ⟨hr, hlr⟩
  | k + 1, hk, h0 => by
    rw [leadTo_succ] at h0 ⊢
    by_cases hn : leadTo s.t r ws k < 0
    · rw [if_pos hn] at h0; omega
    · rw [if_neg hn] at h0 ⊢
      obtain ⟨h1, h2⟩ := lead_live h hl hr hlr k (by omega) (by omega)
      have hx : -(g : Int) ≤ ws.getD k 0 ∧ ws.getD k 0 ≤ g ∧ ws.getD k 0 ≠ 0 := by
        rw [List.getD_eq_getElem?_getD, List.getElem?_eq_getElem (by omega : k < ws.length)]
        exact hl _ (List.getElem_mem _)
      have hc : col (ws.getD k 0) < 2 * g := by unfold col; split <;> omega
      obtain ⟨y, hy⟩ := Int.eq_ofNat_of_zero_le h0
      obtain ⟨-, h3, h4⟩ := h.live h1 hc (show Edge s.t _ _ y from hy)
      rw [hy, Int.toNat_natCast]
      exact ⟨h4, h3⟩
end
/-- how far a word's way goes; how far its inverse's way goes back, at most to i -/
def fwd (t : Tb) (r : Int) (w : W) : Nat := (first (fun k => decide (k = w.length) || decide (leadTo t r w (k + 1) < 0)) (w.length + 1)).getD 0
def bwd (t : Tb) (r : Int) (w : W) (i : Nat) : Nat := (first (fun k => decide (w.length ≤ i + k) || decide (leadTo t r (inv w) (k + 1) < 0)) (w.length + 1)).getD 0
theorem fwd_eq {t : Tb} {r : Int} {w : W} {k : Nat} (hk : k ≤ w.length) (h1 : k = w.length ∨ leadTo t r w (k + 1) < 0) (h2 : ∀ j, j < k → 0 ≤ leadTo t r w (j + 1)) : fwd t r w = k := by
  unfold fwd
  rw [first_some (k := k) (by omega) (by simpa using h1) (fun j hj => by have := h2 j hj; simp; omega)]
  rfl
theorem fwd_spec (t : Tb) (r : Int) (w : W) : fwd t r w ≤ w.length ∧ (fwd t r w = w.length ∨ leadTo t r w (fwd t r w + 1) < 0) ∧ ∀ j, j < fwd t r w → 0 ≤ leadTo t r w (j + 1) := by
  unfold fwd
  cases hf : first (fun k => decide (k = w.length) || decide (leadTo t r w (k + 1) < 0)) (w.length + 1) with
  | none =>
    have := first_none' hf w.length (by omega)
    simp at this
  | some k =>
    obtain ⟨h1, h2, h3⟩ := first_some' hf
    refine ⟨by show k ≤ _; omega, by simpa using h2, fun j hj => ?_⟩
    have := h3 j hj
    simp at this
    omega
theorem bwd_eq {t : Tb} {r : Int} {w : W} {i k : Nat} (hk : k ≤ w.length) (h1 : w.length ≤ i + k ∨ leadTo t r (inv w) (k + 1) < 0) (h2 : ∀ j, j < k → i + j < w.length ∧ 0 ≤ leadTo t r (inv w) (j + 1)) : bwd t r w i = k := by
  unfold bwd
  rw [first_some (k := k) (by omega) (by simpa using h1) (fun j hj => by have := h2 j hj; simp; omega)]
  rfl
theorem bwd_spec (t : Tb) (r : Int) (w : W) (i : Nat) : bwd t r w i ≤ w.length ∧ (w.length ≤ i + bwd t r w i ∨ leadTo t r (inv w) (bwd t r w i + 1) < 0) ∧ ∀ j, j < bwd t r w i → i + j < w.length ∧ 0 ≤ leadTo t r (inv w) (j + 1) := by
  unfold bwd
  cases hf : first (fun k => decide (w.length ≤ i + k) || decide (leadTo t r (inv w) (k + 1) < 0)) (w.length + 1) with
  | none =>
    have := first_none' hf w.length (by omega)
    simp at this
  | some k =>
    obtain ⟨h1, h2, h3⟩ := first_some' hf
    refine ⟨by show k ≤ _; omega, by simpa using h2, fun j hj => ?_⟩
    have := h3 j hj
    simp at this
    omega
/-- a scan: the state behind it, and where it is open -/
def scanS (m : Nat) (s : St) (r : Nat) (w : W) : St × Option (Nat × Nat) :=
  if fwd s.t r w = w.length then (if leadTo s.t r w (fwd s.t r w) = (r : Int) then s else coinS m s (leadTo s.t r w (fwd s.t r w)).toNat r, none) else
  if w.length ≤ fwd s.t r w + bwd s.t r w (fwd s.t r w) then (coinS m s (leadTo s.t r w (fwd s.t r w)).toNat (leadTo s.t r (inv w) (bwd s.t r w (fwd s.t r w))).toNat, none) else
  if w.length = fwd s.t r w + bwd s.t r w (fwd s.t r w) + 1 then (joinS s (leadTo s.t r w (fwd s.t r w)).toNat (col (w.getD (fwd s.t r w) 0)) (leadTo s.t r (inv w) (bwd s.t r w (fwd s.t r w))).toNat, none) else
  (s, some ((leadTo s.t r w (fwd s.t r w)).toNat, col (w.getD (fwd s.t r w) 0)))
/-- filling: none if there is no room -/
def fillF (m lim : Nat) : Nat → St → Nat → W → Option St
  | 0, _, _, _ => none
  | fuel + 1, s, r, w => match scanS m s r w with
    | (s', none) => some s'
    | (_, some (f, c)) => if s.t.length = lim then none else fillF m lim fuel (defS m s f c) r w
def fillS (m lim : Nat) (s : St) (r : Nat) (w : W) : Option St := fillF m lim (lim + 1 - s.t.length) s r w
theorem fillS_step {m lim : Nat} {s : St} {r : Nat} {w : W} (h : s.t.length ≤ lim) : fillS m lim s r w = match scanS m s r w with
    | (s', none) => some s'
    | (_, some (f, c)) => if s.t.length = lim then none else fillS m lim (defS m s f c) r w := by
  unfold fillS
  rw [show lim + 1 - s.t.length = (lim - s.t.length) + 1 by omega, fillF]
  cases scanS m s r w with
  | mk s' o =>
    cases o with
    | none => rfl
    | some fc =>
      simp only
      split
      · rfl
      · rw [length_def, show lim + 1 - (s.t.length + 1) = lim - s.t.length by omega]
section
variable {g : Nat} {s : St}
def LOk (g : Nat) (w : W) : Prop := ∀ x ∈ w, -(g : Int) ≤ x ∧ x ≤ g ∧ x ≠ 0
theorem LOk.inv {w : W} (h : LOk g w) : LOk g (inv w) := fun x hx => by
  have := h _ (mem_inv hx)
  omega
theorem LOk.getD {w : W} (h : LOk g w) {k : Nat} (hk : k < w.length) : -(g : Int) ≤ w.getD k 0 ∧ w.getD k 0 ≤ g ∧ w.getD k 0 ≠ 0 := by
  rw [List.getD_eq_getElem?_getD, List.getElem?_eq_getElem hk]
  exact h _ (List.getElem_mem hk)
theorem LOk.col {w : W} (h : LOk g w) {k : Nat} (hk : k < w.length) : col (w.getD k 0) < 2 * g := by
  have := h.getD hk
  unfold Ct.col
  split <;> omega
theorem col_inv {x : Int} (h : x ≠ 0) : col (-x) = flp (col x) := by
  unfold col flp
  split <;> split <;> split <;> omega
theorem inv_getD {w : W} {k : Nat} (hk : k < w.length) : (Ct.inv w).getD k 0 = -(w.getD (w.length - 1 - k) 0) := by
  unfold Ct.inv
  simp [List.getD_eq_getElem?_getD, hk, show w.length - 1 - k < w.length by omega]
theorem fwd_pos (t : Tb) (r : Nat) (w : W) : 0 ≤ leadTo t r w (fwd t r w) := by
  obtain ⟨-, -, h⟩ := fwd_spec t r w
  rcases Nat.eq_zero_or_pos (fwd t r w) with e | e
  · rw [e]; exact Int.natCast_nonneg r
  · have := h (fwd t r w - 1) (by omega)
    rwa [show fwd t r w - 1 + 1 = fwd t r w by omega] at this
theorem bwd_pos (t : Tb) (r : Nat) (w : W) (i : Nat) : 0 ≤ leadTo t r (inv w) (bwd t r w i) := by
  obtain ⟨-, -, h⟩ := bwd_spec t r w i
  rcases Nat.eq_zero_or_pos (bwd t r w i) with e | e
  · rw [e]; exact Int.natCast_nonneg r
  · have := (h (bwd t r w i - 1) (by omega)).2
    rwa [show bwd t r w i - 1 + 1 = bwd t r w i by omega] at this
/-- a scan keeps the rest, and says where a coset can be defined -/
theorem scan_rest (h : Rest g s) {r : Nat} (hr : r < s.t.length) (hlr : s.rp r = r) {w : W} (hw : LOk g w) :
    (∀ s', scanS (2 * g) s r w = (s', none) → Rest g s' ∧ Ext g s s' ∧ s'.t.length = s.t.length ∧ s'.most = s.most) ∧
    (∀ s' f c, scanS (2 * g) s r w = (s', some (f, c)) → s' = s ∧ f < s.t.length ∧ c < 2 * g ∧ s.rp f = f ∧ s.t.at f c < 0) := by
  obtain ⟨f1, f2, f3⟩ := fwd_spec s.t r w
  have fp := fwd_pos s.t r w
  obtain ⟨b1, b2, b3⟩ := bwd_spec s.t r w (fwd s.t r w)
  have bp := bwd_pos s.t r w (fwd s.t r w)
  obtain ⟨fl, flv⟩ := lead_live h hw hr hlr _ f1 fp
  obtain ⟨bl, blv⟩ := lead_live h hw.inv hr hlr _ (by rw [length_inv]; exact b1) bp
  have hnext : fwd s.t r w < w.length → s.t.at (leadTo s.t r w (fwd s.t r w)).toNat (col (w.getD (fwd s.t r w) 0)) < 0 := fun hlt => by
    rcases f2 with f2 | f2
    · omega
    · rw [leadTo_succ, if_neg (by omega)] at f2
      exact f2
  have hback : ¬ w.length ≤ fwd s.t r w + bwd s.t r w (fwd s.t r w) → s.t.at (leadTo s.t r (Ct.inv w) (bwd s.t r w (fwd s.t r w))).toNat (col ((Ct.inv w).getD (bwd s.t r w (fwd s.t r w)) 0)) < 0 := fun hlt => by
    rcases b2 with b2 | b2
    · omega
    · rw [leadTo_succ, if_neg (by omega)] at b2
      exact b2
  unfold scanS
  generalize hi : fwd s.t r w = i at *
  generalize hk : bwd s.t r w i = k at *
  generalize leadTo s.t r w i = f at *
  generalize leadTo s.t r (Ct.inv w) k = b at *
  by_cases h1 : i = w.length
  · rw [if_pos h1]
    refine ⟨fun s' e => ?_, fun s' f' c' e => by cases e⟩
    by_cases h2 : f = (r : Int)
    · rw [if_pos h2] at e
      cases e
      exact ⟨h, Ext.refl h, rfl, rfl⟩
    · rw [if_neg h2] at e
      cases e
      obtain ⟨c1, c2, -, c4⟩ := coin_rest h fl hr
      exact ⟨c1, Ext.of_cov c1 c2, c2.n, c4⟩
  · rw [if_neg h1]
    by_cases h2 : w.length ≤ i + k
    · rw [if_pos h2]
      refine ⟨fun s' e => ?_, fun s' f' c' e => by cases e⟩
      cases e
      obtain ⟨c1, c2, -, c4⟩ := coin_rest h fl bl
      exact ⟨c1, Ext.of_cov c1 c2, c2.n, c4⟩
    · rw [if_neg h2]
      have hil : i < w.length := by omega
      by_cases h3 : w.length = i + k + 1
      · rw [if_pos h3]
        refine ⟨fun s' e => ?_, fun s' f' c' e => by cases e⟩
        cases e
        have hb := hback h2
        rw [inv_getD (by omega), show w.length - 1 - k = i by omega, col_inv (hw.getD hil).2.2] at hb
        obtain ⟨c1, c2, -⟩ := h.join fl bl (hw.col hil) flv blv (hnext hil) hb
        exact ⟨c1, c2, length_joinS _ _ _, rfl⟩
      · rw [if_neg h3]
        refine ⟨fun s' e => (by cases e), fun s' f' c' e => ?_⟩
        cases e
        exact ⟨rfl, fl, hw.col hil, flv, hnext hil⟩
end
end Go.Proofs.Ct
namespace Go.Proofs.Ct
/-- steps that may fail -/
def optTo {α : Type} (f : Nat → α → Option α) (k : Nat) (s : α) : Option α := foldTo (fun i o => o.bind (f i)) k (some s)
theorem optTo_succ {α : Type} (f : Nat → α → Option α) (k : Nat) (s : α) : optTo f (k + 1) s = (optTo f k s).bind (f k) := rfl
theorem optTo_none {α : Type} {f : Nat → α → Option α} {k : Nat} {s : α} (h : optTo f k s = none) : ∀ m, k ≤ m → optTo f m s = none
  | 0, hm => by rw [show k = 0 by omega] at h; exact h
  | m + 1, hm => by
    by_cases e : k = m + 1
    · rw [← e]; exact h
    · rw [optTo_succ, optTo_none h m (by omega)]; rfl
theorem optTo_inv {α : Type} {f : Nat → α → Option α} {p : Nat → α → Prop} {s : α} (h0 : p 0 s) : ∀ (n : Nat) (_ : ∀ k x y, k < n → p k x → f k x = some y → p (k + 1) y) (y : α), optTo f n s = some y → p n y
  | 0, _, y, h => by
    have : s = y := Option.some.inj h
    rw [← this]; exact h0
  | n + 1, hf, y, h => by
    rw [optTo_succ] at h
    cases hx : optTo f n s with
    | none => rw [hx] at h; cases h
    | some x =>
      rw [hx] at h
      exact hf n x y (Nat.lt_succ_self n) (optTo_inv h0 n (fun k x y hk => hf k x y (by omega)) x hx) h
def relS (m lim : Nat) (rels : List W) (r : Nat) (i : Nat) (s : St) : Option St := if s.rp r = r then fillS m lim s r (rels.getD i []) else some s
def colS (m lim : Nat) (r : Nat) (c : Nat) (s : St) : Option St := if s.rp r = r ∧ s.t.at r c < 0 then (if s.t.length = lim then none else some (defS m s r c)) else some s
def rowS (m lim : Nat) (rels : List W) (r : Nat) (s : St) : Option St := (optTo (relS m lim rels r) rels.length s).bind (optTo (colS m lim r) m)
def rowsS (m lim : Nat) (rels : List W) (r : Nat) (s : St) : Option St := if r < s.t.length then rowS m lim rels r s else some s
def subS (m lim : Nat) (sub : List W) (i : Nat) (s : St) : Option St := fillS m lim s 0 (sub.getD i [])
def nilS : St := ⟨[], [], [], 0, 0⟩
def startS (m : Nat) : St := addS m nilS
def runS (m lim : Nat) (rels sub : List W) : Option St := (optTo (subS m lim sub) sub.length (startS m)).bind (optTo (rowsS m lim rels) lim)
inductive Reach (g : Nat) (t : Tb) : Nat → Nat → Prop where
  | refl (x : Nat) : Reach g t x x
  | step {x y z c : Nat} : Reach g t x y → c < 2 * g → Edge t y c z → Reach g t x z
/-- a good state: at rest, with room, connected -/
structure Good (g lim : Nat) (s : St) : Prop where
  rest : Rest g s
  n1 : 1 ≤ s.t.length
  n2 : s.t.length ≤ lim
  conn : ∀ x, x < s.t.length → Reach g s.t 0 (s.rp x)
  m0 : 0 ≤ s.most
  m1 : s.most ≤ lim
section
variable {g lim : Nat} {s s0 s1 : St}
theorem Reach.ext (h0 : Rest g s0) (h : Ext g s0 s1) {x : Nat} (hx : x < s0.t.length) : ∀ {y : Nat}, Reach g s0.t x y → y < s0.t.length ∧ Reach g s1.t (s1.rp x) (s1.rp y) := by
  intro y hr
  induction hr with
  | refl => exact ⟨hx, .refl _⟩
  | step _ hc he ih =>
    obtain ⟨h1, h2⟩ := ih
    exact ⟨he.lt h0.inv h1 hc, .step h2 hc (h.edge _ _ _ h1 hc he)⟩
theorem Good.of_ext (h : Good g lim s) (hr : Rest g s1) (he : Ext g s s1) (hn : s1.t.length = s.t.length) (hm : s1.most = s.most) : Good g lim s1 := by
  refine ⟨hr, by rw [hn]; exact h.n1, by rw [hn]; exact h.n2, fun x hx => ?_, by rw [hm]; exact h.m0, by rw [hm]; exact h.m1⟩
  rw [hn] at hx
  have := (Reach.ext h.rest he h.n1 (h.conn x hx)).2
  rwa [rp_zero hr (by rw [hn]; exact h.n1), he.coarse x hx] at this
theorem Good.defn (h : Good g lim s) {r c : Nat} (hr : r < s.t.length) (hc : c < 2 * g) (hl : s.rp r = r) (h1 : s.t.at r c < 0) (hroom : s.t.length < lim) : Good g lim (defS (2 * g) s r c) ∧ Ext g s (defS (2 * g) s r c) := by
  obtain ⟨a, b, d⟩ := h.rest.defn hr hc hl h1
  have hn := length_def (s := s) (2 * g) r c
  refine ⟨⟨a, by omega, by omega, fun x hx => ?_, ?_, ?_⟩, b⟩
  · rw [hn] at hx
    have h0 := rp_zero a (by omega)
    rcases Nat.lt_or_ge x s.t.length with h2 | h2
    · have := (Reach.ext h.rest b h.n1 (h.conn x h2)).2
      rwa [h0, b.coarse x h2] at this
    · obtain rfl : x = s.t.length := by omega
      rw [rp_def_new h.rest.inv]
      have := (Reach.ext h.rest b h.n1 (h.conn r hr)).2
      rw [h0, b.coarse r hr, rp_def_old h.rest.inv _ _ _ hr, hl] at this
      exact .step this hc d
  · show 0 ≤ max s.most (s.live + 1)
    have := h.m0
    omega
  · show max s.most (s.live + 1) ≤ lim
    have := h.m1
    have := h.rest.lv
    omega
theorem fillF_good : ∀ (fuel : Nat) {s : St}, Good g lim s → lim < fuel + s.t.length → ∀ {r : Nat}, r < s.t.length → s.rp r = r → ∀ {w : W}, LOk g w → ∀ s', fillF (2 * g) lim fuel s r w = some s' → Good g lim s' ∧ Ext g s s'
  | 0, _, _, _, _, _, _, _, _, s', e => by cases e
  | fuel + 1, s, h, hf, r, hr, hl, w, hw, s', e => by
    obtain ⟨a, b⟩ := scan_rest h.rest hr hl hw
    unfold fillF at e
    cases hsc : scanS (2 * g) s r w with
    | mk s2 o =>
      rw [hsc] at e
      cases o with
      | none =>
        simp only at e
        cases e
        obtain ⟨h1, h2, h3, h4⟩ := a s' hsc
        exact ⟨h.of_ext h1 h2 h3 h4, h2⟩
      | some fc =>
        obtain ⟨f, c⟩ := fc
        simp only at e
        obtain ⟨-, h2, h3, h4, h5⟩ := b _ _ _ hsc
        split at e
        · cases e
        · rename_i hne
          obtain ⟨k1, k2⟩ := h.defn h2 h3 h4 h5 (by have := h.n2; omega)
          have hn := length_def (s := s) (2 * g) f c
          obtain ⟨k3, k4⟩ := fillF_good fuel k1 (by omega) (r := r) (by omega) (by rw [rp_def_old h.rest.inv _ _ _ hr]; exact hl) hw s' e
          exact ⟨k3, k2.trans h.rest k1.rest k4⟩
theorem fill_good (h : Good g lim s) {r : Nat} (hr : r < s.t.length) (hl : s.rp r = r) {w : W} (hw : LOk g w) {s' : St} (e : fillS (2 * g) lim s r w = some s') : Good g lim s' ∧ Ext g s s' := by
  have := h.n2
  exact fillF_good _ h (by omega) hr hl hw s' e
theorem getD_all {P : W → Prop} {l : List W} (h : ∀ j, j < l.length → P (l.getD j [])) (h0 : P []) (j : Nat) : P (l.getD j []) := by
  rcases Nat.lt_or_ge j l.length with h1 | h1
  · exact h j h1
  · rw [List.getD_eq_getElem?_getD, List.getElem?_eq_none h1]; exact h0
theorem LOk.nil : LOk g [] := fun x hx => by cases hx
/-- the cosets below k are complete -/
def Comp (g : Nat) (s : St) (k : Nat) : Prop := ∀ x, x < k → x < s.t.length → ∀ c, c < 2 * g → 0 ≤ s.t.at (s.rp x) c
theorem Comp.ext (h0 : Rest g s0) (h : Ext g s0 s1) {k : Nat} (hk : k ≤ s0.t.length) (hc : Comp g s0 k) : Comp g s1 k := fun x hx _ c hcc => by
  have hx0 : x < s0.t.length := by omega
  obtain ⟨y, hy⟩ := Int.eq_ofNat_of_zero_le (hc x hx hx0 c hcc)
  have := h.edge (s0.rp x) c y (h0.inv.rlt hx0) hcc hy
  rw [h.coarse x hx0] at this
  unfold Edge at this
  omega
theorem start_good (hg : 1 ≤ lim) : Good g lim (startS (2 * g)) := by
  have h0 : Rest g nilS := ⟨⟨fun r hr => absurd hr (by simp [nilS]), fun r hr => absurd hr (by simp [nilS]), rfl, fun r hr => absurd hr (by simp [nilS]), fun r hr => absurd hr (by simp [nilS]), fun r hr => absurd hr (by simp [nilS])⟩, fun r hr => absurd hr (by simp [nilS]), rfl⟩
  have hr := h0.add
  have hn : (startS (2 * g)).t.length = 1 := by unfold startS; rw [length_add]; rfl
  refine ⟨hr, by omega, by omega, fun x hx => ?_, ?_, ?_⟩
  · have h1 : (startS (2 * g)).rp x = 0 := by have : (startS (2 * g)).rp x ≤ x := hr.inv.rle x hx; omega
    rw [h1]; exact .refl _
  · show 0 ≤ max (0 : Int) (0 + 1); omega
  · show max (0 : Int) (0 + 1) ≤ lim; omega
theorem sub_good {sub : List W} (hg : 1 ≤ lim) (hs : ∀ j, j < sub.length → LOk g (sub.getD j [])) {s' : St} {k : Nat} (e : optTo (subS (2 * g) lim sub) k (startS (2 * g)) = some s') : Good g lim s' :=
  optTo_inv (p := fun _ s => Good g lim s) (start_good hg) k (fun i _x _y _ hx hy => (fill_good hx hx.n1 (rp_zero hx.rest hx.n1) (getD_all hs LOk.nil i) hy).1) s' e
theorem rel_good {rels : List W} (hs : ∀ j, j < rels.length → LOk g (rels.getD j [])) {r : Nat} (h : Good g lim s) (hr : r < s.t.length) {s' : St} {k : Nat} (e : optTo (relS (2 * g) lim rels r) k s = some s') : Good g lim s' ∧ Ext g s s' :=
  optTo_inv (p := fun _ x => Good g lim x ∧ Ext g s x) ⟨h, Ext.refl h.rest⟩ k (fun i x y _ ⟨hx, hx2⟩ hy => by
    unfold relS at hy
    split at hy
    · rename_i hl
      obtain ⟨a, b⟩ := fill_good hx (Nat.lt_of_lt_of_le hr hx2.n) hl (getD_all hs LOk.nil i) hy
      exact ⟨a, hx2.trans h.rest hx.rest b⟩
    · cases hy; exact ⟨hx, hx2⟩) s' e
theorem col_good {r : Nat} (h : Good g lim s) (hr : r < s.t.length) {k : Nat} (hk : k ≤ 2 * g) {s' : St} (e : optTo (colS (2 * g) lim r) k s = some s') : Good g lim s' ∧ Ext g s s' ∧ (s'.rp r = s.rp r) ∧ (s'.rp r = r → ∀ c, c < k → 0 ≤ s'.t.at r c) :=
  optTo_inv (p := fun k x => Good g lim x ∧ Ext g s x ∧ (x.rp r = s.rp r) ∧ (x.rp r = r → ∀ c, c < k → 0 ≤ x.t.at r c)) ⟨h, Ext.refl h.rest, rfl, fun _ c hc => absurd hc (by omega)⟩ k (fun c x y hc ⟨hx, hx2, hx3, hx4⟩ hy => by
    have hrx : r < x.t.length := Nat.lt_of_lt_of_le hr hx2.n
    unfold colS at hy
    split at hy
    · rename_i hl
      split at hy
      · cases hy
      · rename_i hne
        cases hy
        obtain ⟨a, b⟩ := hx.defn hrx (by omega) hl.1 hl.2 (by have := hx.n2; omega)
        have hrp := rp_def_old hx.rest.inv (2 * g) r c hrx
        refine ⟨a, hx2.trans h.rest hx.rest b, hrp.trans hx3, fun h' c' hc' => ?_⟩
        have hl' : x.rp r = r := hl.1
        rcases Nat.lt_or_ge c' c with h1 | h1
        · obtain ⟨z, hz⟩ := Int.eq_ofNat_of_zero_le (hx4 hl' c' h1)
          have := b.edge r c' z hrx (by omega) hz
          rw [h'] at this
          unfold Edge at this
          omega
        · obtain rfl : c' = c := by omega
          obtain ⟨-, -, d⟩ := hx.rest.defn hrx (by omega) hl.1 hl.2
          unfold Edge at d
          omega
    · rename_i hl
      cases hy
      refine ⟨hx, hx2, hx3, fun h' c' hc' => ?_⟩
      rcases Nat.lt_or_ge c' c with h1 | h1
      · exact hx4 h' c' h1
      · obtain rfl : c' = c := by omega
        rcases Int.lt_or_le (x.t.at r c') 0 with h2 | h2
        · exact absurd ⟨h', h2⟩ hl
        · exact h2) s' e
theorem row_good {rels : List W} (hs : ∀ j, j < rels.length → LOk g (rels.getD j [])) {r : Nat} (h : Good g lim s) (hr : r < s.t.length) (hc : Comp g s r) {s' : St} (e : rowS (2 * g) lim rels r s = some s') : Good g lim s' ∧ Ext g s s' ∧ Comp g s' (r + 1) := by
  unfold rowS at e
  cases hx : optTo (relS (2 * g) lim rels r) rels.length s with
  | none => rw [hx] at e; cases e
  | some x =>
    rw [hx] at e
    obtain ⟨a, b⟩ := rel_good hs h hr hx
    have hrx : r < x.t.length := Nat.lt_of_lt_of_le hr b.n
    obtain ⟨a2, b2, b3, b4⟩ := col_good a hrx (Nat.le_refl _) e
    have hE := b.trans h.rest a.rest b2
    have hC := Comp.ext h.rest hE (by omega) hc
    refine ⟨a2, hE, fun y hy hyn c hcc => ?_⟩
    rcases Nat.lt_or_ge y r with h1 | h1
    · exact hC y h1 hyn c hcc
    · obtain rfl : y = r := by omega
      by_cases hl : s'.rp y = y
      · rw [hl]; exact b4 hl c hcc
      · have h2 := a2.rest.inv.rle y hyn
        have h3 := hC (s'.rp y) (by omega) (a2.rest.inv.rlt hyn) c hcc
        rwa [a2.rest.inv.rid y hyn] at h3
/-- what the whole procedure ends with -/
theorem run_good {rels sub : List W} (hg : 1 ≤ lim) (hr : ∀ j, j < rels.length → LOk g (rels.getD j [])) (hs : ∀ j, j < sub.length → LOk g (sub.getD j [])) {s' : St} (e : runS (2 * g) lim rels sub = some s') : Good g lim s' ∧ Comp g s' s'.t.length := by
  unfold runS at e
  cases hx : optTo (subS (2 * g) lim sub) sub.length (startS (2 * g)) with
  | none => rw [hx] at e; cases e
  | some x =>
    rw [hx] at e
    have hG := sub_good hg hs hx
    obtain ⟨a, b⟩ := optTo_inv (p := fun k x => Good g lim x ∧ Comp g x k) ⟨hG, fun x hx => absurd hx (by omega)⟩ lim (fun r x y _ ⟨hx1, hx2⟩ hy => by
      unfold rowsS at hy
      split at hy
      · rename_i hlt
        obtain ⟨a, -, c⟩ := row_good hr hx1 hlt hx2 hy
        exact ⟨a, c⟩
      · rename_i hlt
        cases hy
        exact ⟨hx1, fun z _ hzn c hcc => hx2 z (by omega) hzn c hcc⟩) s' e
    exact ⟨a, fun z hz hzn c hcc => b z (by have := a.n2; omega) hzn c hcc⟩
end
end Go.Proofs.Ct
namespace Go.Proofs.Ct
/-- a word leads from x to y -/
def Way (t : Tb) : Nat → W → Nat → Prop
  | x, [], y => x = y
  | x, l :: w, y => ∃ z, Edge t x (col l) z ∧ Way t z w y
section
variable {t : Tb} {g : Nat} {s s0 s1 : St}
theorem way_app {u v : W} : ∀ {x y : Nat}, Way t x (u ++ v) y ↔ ∃ z, Way t x u z ∧ Way t z v y := by
  induction u with
  | nil => intro x y; exact ⟨fun h => ⟨x, rfl, h⟩, fun ⟨z, h1, h2⟩ => by have e : x = z := h1; subst e; exact h2⟩
  | cons l u ih =>
    intro x y
    constructor
    · rintro ⟨z, h1, h2⟩
      obtain ⟨z', h3, h4⟩ := ih.1 h2
      exact ⟨z', ⟨z, h1, h3⟩, h4⟩
    · rintro ⟨z', ⟨z, h1, h3⟩, h4⟩
      exact ⟨z, h1, ih.2 ⟨z', h3, h4⟩⟩
theorem way_one {x y : Nat} {l : Int} : Way t x [l] y ↔ Edge t x (col l) y := ⟨fun ⟨z, h1, h2⟩ => by have e : z = y := h2; subst e; exact h1, fun h => ⟨y, h, rfl⟩⟩
theorem take_snocW {w : W} {k : Nat} (h : k < w.length) : w.take (k + 1) = w.take k ++ [w.getD k 0] := by
  rw [List.take_add_one, List.getD_eq_getElem?_getD, List.getElem?_eq_getElem h]; rfl
theorem way_of_lead {r : Nat} {w : W} : ∀ (k : Nat), k ≤ w.length → 0 ≤ leadTo t r w k → Way t r (w.take k) (leadTo t r w k).toNat
  | 0, _, _ => by
    rw [List.take_zero]
    show r = ((r : Int)).toNat
    omega
  | k + 1, hk, h => by
    rw [leadTo_succ] at h ⊢
    by_cases h1 : leadTo t r w k < 0
    · rw [if_pos h1] at h; omega
    · rw [if_neg h1] at h ⊢
      have ih := way_of_lead (r := r) (w := w) k (by omega) (by omega)
      rw [take_snocW (by omega)]
      refine way_app.2 ⟨_, ih, way_one.2 ?_⟩
      unfold Edge
      omega
theorem lead_of_way {r : Nat} {w : W} : ∀ (k : Nat), k ≤ w.length → ∀ {y : Nat}, Way t r (w.take k) y → leadTo t r w k = (y : Int)
  | 0, _, y, h => by
    rw [List.take_zero] at h
    have e : r = y := h
    subst e; rfl
  | k + 1, hk, y, h => by
    rw [take_snocW (by omega)] at h
    obtain ⟨z, h1, h2⟩ := way_app.1 h
    have ih := lead_of_way k (by omega) h1
    rw [leadTo_succ, ih, if_neg (by omega), Int.toNat_natCast]
    exact way_one.1 h2
theorem leads_iff {r y : Nat} {w : W} : leads t r w = (y : Int) ↔ Way t r w y := by
  constructor
  · intro h
    have := way_of_lead (t := t) (r := r) w.length (Nat.le_refl _) (by show 0 ≤ leads t r w; omega)
    rw [List.take_length] at this
    have e : (leadTo t r w w.length).toNat = y := by show (leads t r w).toNat = y; omega
    rwa [e] at this
  · intro h
    exact lead_of_way w.length (Nat.le_refl _) (by rw [List.take_length]; exact h)
theorem LOk.cons {l : Int} {w : W} (h : LOk g (l :: w)) : (-(g : Int) ≤ l ∧ l ≤ g ∧ l ≠ 0) ∧ LOk g w := ⟨h l (List.mem_cons_self ..), fun x hx => h x (List.mem_cons_of_mem _ hx)⟩
theorem col_ltL {l : Int} (h : -(g : Int) ≤ l ∧ l ≤ g ∧ l ≠ 0) : col l < 2 * g := by unfold col; split <;> omega
theorem inv_cons (l : Int) (w : W) : inv (l :: w) = inv w ++ [-l] := by simp [inv]
theorem inv_inv (w : W) : inv (inv w) = w := by simp [inv, Function.comp_def]
theorem inv_app (u v : W) : inv (u ++ v) = inv v ++ inv u := by simp [inv]
theorem way_inv (h : Inv g s) : ∀ {w : W} {x y : Nat}, LOk g w → x < s.t.length → Way s.t x w y → Way s.t y (inv w) x := by
  intro w
  induction w with
  | nil => intro x y _ _ h; exact Eq.symm h
  | cons l w ih =>
    rintro x y hw hx ⟨z, h1, h2⟩
    rw [inv_cons]
    refine way_app.2 ⟨z, ih hw.cons.2 (h1.lt h hx (col_ltL hw.cons.1)) h2, way_one.2 ?_⟩
    rw [col_inv hw.cons.1.2.2]
    exact h1.back h hx (col_ltL hw.cons.1)
theorem way_ext (h0 : Inv g s0) (h : Ext g s0 s1) : ∀ {w : W} {x y : Nat}, LOk g w → x < s0.t.length → Way s0.t x w y → Way s1.t (s1.rp x) w (s1.rp y) := by
  intro w
  induction w with
  | nil => intro x y _ _ h; have e : x = y := h; subst e; exact rfl
  | cons l w ih =>
    rintro x y hw hx ⟨z, h1, h2⟩
    have hz := h1.lt h0 hx (col_ltL hw.cons.1)
    exact ⟨_, h.edge _ _ _ hx (col_ltL hw.cons.1) h1, ih hw.cons.2 hz h2⟩
/-- a word is closed at a coset -/
def Clo (s : St) (r : Nat) (w : W) : Prop := Way s.t (s.rp r) w (s.rp r)
theorem Clo.ext (h0 : Rest g s0) (h : Ext g s0 s1) {r : Nat} (hr : r < s0.t.length) {w : W} (hw : LOk g w) (hc : Clo s0 r w) : Clo s1 r w := by
  have := way_ext h0.inv h hw (h0.inv.rlt hr) hc
  rwa [h.coarse r hr] at this
theorem drop_inv {w : W} {k : Nat} (hk : k ≤ w.length) : inv ((inv w).take k) = w.drop (w.length - k) := by
  have h1 : inv w = inv (w.drop (w.length - k)) ++ inv (w.take (w.length - k)) := by rw [← inv_app, List.take_append_drop]
  have h2 : (inv (w.drop (w.length - k))).length = k := by rw [length_inv, List.length_drop]; omega
  rw [h1, List.take_append_of_le_length (by omega), List.take_of_length_le (by omega), inv_inv]
theorem scan_closed (h : Rest g s) {r : Nat} (hr : r < s.t.length) (hlr : s.rp r = r) {w : W} (hw : LOk g w) {s' : St} (e : scanS (2 * g) s r w = (s', none)) : Clo s' r w := by
  obtain ⟨f1, f2, f3⟩ := fwd_spec s.t r w
  have fp := fwd_pos s.t r w
  obtain ⟨b1, b2, b3⟩ := bwd_spec s.t r w (fwd s.t r w)
  have bp := bwd_pos s.t r w (fwd s.t r w)
  obtain ⟨fl, flv⟩ := lead_live h hw hr hlr _ f1 fp
  obtain ⟨bl, blv⟩ := lead_live h hw.inv hr hlr _ (by rw [length_inv]; exact b1) bp
  have hF := way_of_lead _ f1 fp
  have hB := way_inv h.inv (fun x hx => hw.inv x (List.mem_of_mem_take hx)) hr (way_of_lead _ (by rw [length_inv]; exact b1) bp)
  rw [drop_inv b1] at hB
  have hnext : fwd s.t r w < w.length → s.t.at (leadTo s.t r w (fwd s.t r w)).toNat (col (w.getD (fwd s.t r w) 0)) < 0 := fun hlt => by
    rcases f2 with f2 | f2
    · omega
    · rw [leadTo_succ, if_neg (by omega)] at f2
      exact f2
  have hback : ¬ w.length ≤ fwd s.t r w + bwd s.t r w (fwd s.t r w) → s.t.at (leadTo s.t r (Ct.inv w) (bwd s.t r w (fwd s.t r w))).toNat (col ((Ct.inv w).getD (bwd s.t r w (fwd s.t r w)) 0)) < 0 := fun hlt => by
    rcases b2 with b2 | b2
    · omega
    · rw [leadTo_succ, if_neg (by omega)] at b2
      exact b2
  have hik : fwd s.t r w + bwd s.t r w (fwd s.t r w) ≤ w.length := by
    rcases Nat.eq_zero_or_pos (bwd s.t r w (fwd s.t r w)) with h0 | h0
    · omega
    · have := (b3 (bwd s.t r w (fwd s.t r w) - 1) (by omega)).1
      omega
  have hwt : ∀ k, LOk g (w.take k) := fun k x hx => hw x (List.mem_of_mem_take hx)
  have hwd : ∀ k, LOk g (w.drop k) := fun k x hx => hw x (List.mem_of_mem_drop hx)
  unfold scanS at e
  generalize hi : fwd s.t r w = i at *
  generalize hk : bwd s.t r w i = k at *
  generalize leadTo s.t r w i = f at *
  generalize leadTo s.t r (Ct.inv w) k = b at *
  unfold Clo
  by_cases h1 : i = w.length
  · rw [if_pos h1] at e
    rw [h1, List.take_length] at hF
    by_cases h2 : f = (r : Int)
    · rw [if_pos h2] at e
      cases e
      rw [hlr]
      rw [h2, Int.toNat_natCast] at hF
      exact hF
    · rw [if_neg h2] at e
      cases e
      obtain ⟨c1, c2, c3, c4⟩ := coin_rest h fl hr
      have := way_ext h.inv (Ext.of_cov c1 c2) hw hr hF
      rwa [c3] at this
  · rw [if_neg h1] at e
    by_cases h2 : w.length ≤ i + k
    · rw [if_pos h2] at e
      cases e
      obtain ⟨c1, c2, c3, c4⟩ := coin_rest h fl bl
      have hE := Ext.of_cov c1 c2
      rw [show w.length - k = i by omega] at hB
      have w1 := way_ext h.inv hE (hwt i) hr hF
      have w2 := way_ext h.inv hE (hwd i) bl hB
      rw [c3] at w1
      have := way_app.2 ⟨_, w1, w2⟩
      rwa [List.take_append_drop] at this
    · rw [if_neg h2] at e
      have hil : i < w.length := by omega
      by_cases h3 : w.length = i + k + 1
      · rw [if_pos h3] at e
        cases e
        have hb := hback h2
        rw [inv_getD (by omega), show w.length - 1 - k = i by omega, col_inv (hw.getD hil).2.2] at hb
        obtain ⟨c1, c2, c3⟩ := h.join fl bl (hw.col hil) flv blv (hnext hil) hb
        rw [show w.length - k = i + 1 by omega] at hB
        have w1 := way_ext h.inv c2 (hwt i) hr hF
        have w2 := way_ext h.inv c2 (hwd (i + 1)) bl hB
        rw [rp_joinS, rp_joinS, hlr, flv] at w1
        rw [rp_joinS, rp_joinS, hlr, blv] at w2
        rw [rp_joinS, hlr]
        have := way_app.2 ⟨_, way_app.2 ⟨_, w1, way_one.2 c3⟩, w2⟩
        rwa [← take_snocW hil, List.take_append_drop] at this
      · rw [if_neg h3] at e
        cases e
end
end Go.Proofs.Ct
namespace Go.Proofs.Ct
def outTo (o : List Int) (t : Tb) (k : Nat) : Tb := (List.range k).map fun i => (t.row (o.getD i 0).toNat).map (numOf o)
theorem length_outTo (o : List Int) (t : Tb) (k : Nat) : (outTo o t k).length = k := by simp [outTo]
theorem outTo_succ (o : List Int) (t : Tb) (k : Nat) : outTo o t (k + 1) = outTo o t k ++ [(t.row (o.getD k 0).toNat).map (numOf o)] := by simp [outTo, List.range_succ]
theorem map_take_succ {f : Int → Int} {row : List Int} {j : Nat} (h : j < row.length) : (row.take (j + 1)).map f = (row.take j).map f ++ [f (row.getD j 0)] := by
  rw [List.take_succ_eq_append_getElem h, List.map_append, List.getD_eq_getElem?_getD, List.getElem?_eq_getElem h]
  rfl
theorem outTo_full {o : List Int} {t : Tb} : outTo o t o.length = o.map fun r => (t.row r.toNat).map (numOf o) := by
  apply List.ext_getElem
  · simp [outTo]
  · intro i h1 h2
    have h3 : i < o.length := by simpa using h2
    simp [outTo, List.getD_eq_getElem?_getD, h3]
theorem neg_true {t : Tb} {r c : Nat} (hr : r < t.length) (hc : c < (t.row r).length) (h : (t.row r).getD c 0 < 0) : t.any neg = true := by
  rw [List.any_eq_true]
  refine ⟨_, row_of_mem hr, ?_⟩
  unfold neg
  rw [List.any_eq_true]
  refine ⟨(t.row r).getD c 0, ?_, by simpa using h⟩
  rw [List.getD_eq_getElem?_getD, List.getElem?_eq_getElem hc]
  exact List.getElem_mem hc
theorem std_neg {t : Tb} {b : Int} (h : t.any neg = true) : std t b = none := by
  unfold std
  rw [if_neg (by simp [h])]
theorem std_short {t : Tb} {b : Int} (h : (ord t b).length ≠ t.length) : std t b = none := by
  unfold std
  rw [if_neg (fun hc => h hc.1)]
theorem neg_false {t : Tb} (h : ∀ r, r < t.length → ∀ c, c < (t.row r).length → 0 ≤ (t.row r).getD c 0) : t.any neg = false := by
  rw [List.any_eq_false]
  intro row hrow
  obtain ⟨r, hr, rfl⟩ := List.mem_iff_getElem.1 hrow
  have e : t.row r = t[r] := by unfold Tb.row; rw [List.getD_eq_getElem?_getD, List.getElem?_eq_getElem hr]; rfl
  intro hn
  unfold neg at hn
  rw [List.any_eq_true] at hn
  obtain ⟨x, hx, hx0⟩ := hn
  obtain ⟨c, hc, rfl⟩ := List.mem_iff_getElem.1 hx
  have := h r hr c (by rw [e]; exact hc)
  rw [e, List.getD_eq_getElem?_getD, List.getElem?_eq_getElem hc] at this
  simp at this hx0
  omega
theorem std_full {g : Nat} {t : Tb} (hg : TGood g t) {b : Int} (hb : 0 ≤ b) (hb' : b < t.length) (hl : (ord t b).length = t.length) (h : ∀ j, j < t.length → ∀ c, c < (t.row ((ord t b).getD j 0).toNat).length → 0 ≤ (t.row ((ord t b).getD j 0).toNat).getD c 0) :
    std t b = some (outTo (ord t b) t t.length) := by
  have hC : Cos t.length (ord t b) := Cos.ordTo hg hb hb' t.length
  have hn : t.any neg = false := neg_false fun r hr c hc => by
    have hm := mem_of_full hC hl r hr
    obtain ⟨j, hj, he⟩ := List.mem_iff_getElem.1 hm
    have h2 := h j (by omega) c
    have e : (ord t b).getD j 0 = (r : Int) := by rw [List.getD_eq_getElem?_getD, List.getElem?_eq_getElem hj]; simpa using he
    rw [e] at h2
    simp only [Int.toNat_natCast] at h2
    exact h2 hc
  unfold std
  rw [if_pos ⟨hl, hn⟩]
  rw [← outTo_full, hl]
theorem ord_end {t : Tb} {b : Int} {k : Nat} (h : (ordTo t b k).length ≤ k) (hk : k ≤ t.length) : ord t b = ordTo t b k := ordTo_stable t b h hk
theorem numOf_bd {l : List Int} {x : Int} : 0 ≤ numOf l x ∧ numOf l x ≤ l.length := by
  unfold numOf
  have := List.idxOf_le_length (a := x) (l := l)
  omega
end Go.Proofs.Ct
namespace Go.Proofs.Ct
def livTo (s : St) (n : Nat) : List Nat := (List.range n).filter fun x => decide (s.rp x = x)
def liv (s : St) : List Nat := livTo s s.t.length
/-- the number of a live coset: how many live before it -/
def num (s : St) (x : Nat) : Nat := (livTo s x).length
def tabS (s : St) : Tb := (liv s).map fun x => (s.t.row x).map fun v => (num s v.toNat : Int)
theorem livTo_succ (s : St) (n : Nat) : livTo s (n + 1) = if s.rp n = n then livTo s n ++ [n] else livTo s n := by
  unfold livTo
  rw [List.range_succ, List.filter_append]
  simp only [List.filter_cons, List.filter_nil, decide_eq_true_eq]
  split <;> simp
theorem livTo_pre (s : St) {a b : Nat} (h : a ≤ b) : livTo s a <+: livTo s b := by
  induction b with
  | zero => rw [show a = 0 by omega]; exact List.prefix_rfl
  | succ b ih =>
    by_cases e : a = b + 1
    · rw [e]; exact List.prefix_rfl
    · refine (ih (by omega)).trans ?_
      rw [livTo_succ]
      split
      · exact ⟨_, rfl⟩
      · exact List.prefix_rfl
theorem num_lt {s : St} {x n : Nat} (hx : x < n) (hl : s.rp x = x) : num s x < (livTo s n).length ∧ (livTo s n).getD (num s x) 0 = x := by
  have h1 : livTo s (x + 1) = livTo s x ++ [x] := by rw [livTo_succ, if_pos hl]
  obtain ⟨r, hr⟩ := livTo_pre s (show x + 1 ≤ n from hx)
  rw [← hr, h1]
  unfold num
  simp [List.getD_eq_getElem?_getD]
theorem livTo_at {s : St} : ∀ (n i : Nat), i < (livTo s n).length → (livTo s n).getD i 0 < n ∧ s.rp ((livTo s n).getD i 0) = (livTo s n).getD i 0 ∧ num s ((livTo s n).getD i 0) = i
  | 0, i, h => by simp [livTo] at h
  | n + 1, i, h => by
    rw [livTo_succ] at h ⊢
    by_cases hl : s.rp n = n
    · rw [if_pos hl] at h ⊢
      rcases Nat.lt_or_ge i (livTo s n).length with h1 | h1
      · have : (livTo s n ++ [n]).getD i 0 = (livTo s n).getD i 0 := by simp [List.getD_eq_getElem?_getD, List.getElem?_append_left h1]
        rw [this]
        obtain ⟨a, b, c⟩ := livTo_at n i h1
        exact ⟨by omega, b, c⟩
      · have hi : i = (livTo s n).length := by simp at h; omega
        have : (livTo s n ++ [n]).getD i 0 = n := by rw [hi]; simp [List.getD_eq_getElem?_getD]
        rw [this, hi]
        exact ⟨by omega, hl, rfl⟩
    · rw [if_neg hl] at h ⊢
      obtain ⟨a, b, c⟩ := livTo_at n i h
      exact ⟨by omega, b, c⟩
theorem livTo_le (s : St) (n : Nat) : (livTo s n).length ≤ n := by
  have := List.length_filter_le (fun x => decide (s.rp x = x)) (List.range n)
  simpa [livTo] using this
theorem length_tab (s : St) : (tabS s).length = (liv s).length := by simp [tabS]
theorem row_tab {s : St} {i : Nat} (h : i < (liv s).length) : (tabS s).row i = (s.t.row ((liv s).getD i 0)).map fun v => (num s v.toNat : Int) := by
  unfold tabS Tb.row
  simp [List.getD_eq_getElem?_getD, h]
theorem at_tab {s : St} {i c : Nat} (h : i < (liv s).length) (hc : c < (s.t.row ((liv s).getD i 0)).length) : (tabS s).at i c = (num s (s.t.at ((liv s).getD i 0) c).toNat : Int) := by
  unfold Tb.at
  rw [row_tab h]
  generalize s.t.row ((liv s).getD i 0) = row at *
  simp [List.getD_eq_getElem?_getD, hc]
/-- a table in which all can be reached has a full order -/
theorem ord_closed {g : Nat} {t : Tb} (hg : TGood g t) (hpos : ∀ r, r < t.length → ∀ c, c < 2 * g → 0 ≤ t.at r c) {x : Nat} (hx : x < t.length) (hm : (x : Int) ∈ ord t 0) {c : Nat} (hc : c < 2 * g) : t.at x c ∈ ord t 0 := by
  have hn1 := hg.n1
  have hC := Cos.ordTo hg (b := 0) (by omega) (by omega) t.length
  have hle := length_le_of_nodup hC
  obtain ⟨j, hj, he⟩ := List.mem_iff_getElem.1 hm
  have hjl : j < t.length := Nat.lt_of_lt_of_le hj hle
  have hlt : j < (ordTo t 0 j).length := by
    rcases Nat.lt_or_ge j (ordTo t 0 j).length with h | h
    · exact h
    · have := ordTo_stable t 0 h (by omega : j ≤ t.length)
      unfold ord at hj
      rw [this] at hj
      omega
  have hget : (ordTo t 0 j).getD j 0 = (x : Int) := by
    rw [← pre_get (ordTo_mono t 0 (by omega : j ≤ t.length)) hlt]
    unfold ord at he hj
    rw [List.getD_eq_getElem?_getD, List.getElem?_eq_getElem hj]
    simpa using he
  have hstep : ordTo t 0 (j + 1) = visitTo (t.row x) (t.row x).length (ordTo t 0 j) := by
    rw [ordTo, if_pos hlt, hget, Int.toNat_natCast]
  have hp := hpos x hx c hc
  have hmem : t.at x c ∈ ordTo t 0 (j + 1) := by
    rw [hstep]
    exact mem_visitTo (by rw [hg.len x hx]; exact hc) hp _
  exact (ordTo_mono t 0 (by omega : j + 1 ≤ t.length)).subset hmem
theorem ge_of_all : ∀ (n : Nat) (l : List Int), (∀ r : Nat, r < n → (r : Int) ∈ l) → n ≤ l.length
  | 0, _, _ => Nat.zero_le _
  | n + 1, l, h => by
    have hm := h n (by omega)
    have := ge_of_all n (l.erase n) fun r hr => (List.mem_erase_of_ne (by omega : (r : Int) ≠ (n : Int))).2 (h r (by omega))
    rw [List.length_erase_of_mem hm] at this
    have h1 : 0 < l.length := List.length_pos_of_mem hm
    omega
theorem std_of_reach {g : Nat} {t : Tb} (hg : TGood g t) (hpos : ∀ r, r < t.length → ∀ c, c < 2 * g → 0 ≤ t.at r c) (hr : ∀ x, x < t.length → Reach g t 0 x) : std t 0 = some (outTo (ord t 0) t t.length) := by
  have hn1 := hg.n1
  have hin : ∀ x, Reach g t 0 x → x < t.length ∧ (x : Int) ∈ ord t 0 := fun x hx => by
    induction hx with
    | refl => exact ⟨hg.n1, (ordTo_mono t 0 (Nat.zero_le t.length)).subset (by simp [ordTo])⟩
    | @step y z c _ hc he ih =>
      obtain ⟨h1, h2⟩ := ih
      have h3 := ord_closed hg hpos h1 h2 hc
      rw [show t.at y c = (z : Int) from he] at h3
      have := (hg.bd y h1 c hc).2
      rw [show t.at y c = (z : Int) from he] at this
      exact ⟨by omega, h3⟩
  have hC := Cos.ordTo hg (b := 0) (by omega) (by omega) t.length
  have hl : (ord t 0).length = t.length := Nat.le_antisymm (length_le_of_nodup hC) (ge_of_all _ _ fun r hr' => (hin r (hr r hr')).2)
  refine std_full hg (by omega) (by omega) hl fun j hj c hc => ?_
  have hget := hC.get (k := j) (by show j < (ord t 0).length; omega)
  have hrow : ((ord t 0).getD j 0).toNat < t.length := by
    have h1 : (ordTo t 0 t.length).getD j 0 = (ord t 0).getD j 0 := rfl
    omega
  exact hpos _ hrow c (by rw [hg.len _ hrow] at hc; exact hc)
section
variable {g lim : Nat} {s : St}
theorem tab_good (hg1 : 1 ≤ g) (hg16 : g ≤ 16) (hlim : lim ≤ 20000) (h : Good g lim s) (hc : Comp g s s.t.length) :
    TGood g (tabS s) ∧ (∀ r, r < (tabS s).length → ∀ c, c < 2 * g → 0 ≤ (tabS s).at r c) ∧ (∀ x, x < (tabS s).length → Reach g (tabS s) 0 x) := by
  have hI := h.rest.inv
  have h0 := rp_zero h.rest h.n1
  have hpos0 : 0 < (liv s).length := by
    have := (num_lt h.n1 h0).1
    unfold liv
    omega
  have hlen := length_tab s
  -- the row of a live coset
  have hrow : ∀ i, i < (liv s).length → (liv s).getD i 0 < s.t.length ∧ s.rp ((liv s).getD i 0) = (liv s).getD i 0 ∧ num s ((liv s).getD i 0) = i := fun i hi => livTo_at _ i hi
  have hat : ∀ i, i < (liv s).length → ∀ c, c < 2 * g → ∃ y, Edge s.t ((liv s).getD i 0) c y ∧ s.rp y = y ∧ y < s.t.length ∧ (tabS s).at i c = (num s y : Int) ∧ num s y < (liv s).length ∧ (liv s).getD (num s y) 0 = y := fun i hi c hcc => by
    obtain ⟨h1, h2, h3⟩ := hrow i hi
    obtain ⟨y, hy⟩ := Int.eq_ofNat_of_zero_le (by have := hc _ h1 h1 c hcc; rwa [h2] at this)
    obtain ⟨-, h4, h5⟩ := h.rest.live h1 hcc (show Edge s.t _ _ y from hy)
    obtain ⟨h6, h7⟩ := num_lt (n := s.t.length) h5 h4
    refine ⟨y, hy, h4, h5, ?_, h6, h7⟩
    rw [at_tab hi (by rw [hI.len _ h1]; exact hcc), hy, Int.toNat_natCast]
  refine ⟨⟨hg1, hg16, by omega, ?_, fun r hr => ?_, fun r hr c hcc => ?_, fun r hr c hcc _ => ?_⟩, fun r hr c hcc => ?_, fun x hx => ?_⟩
  · have := livTo_le s s.t.length
    have := h.n2
    unfold liv at hlen
    omega
  · rw [hlen] at hr
    rw [row_tab hr, List.length_map, hI.len _ (hrow r hr).1]
  · rw [hlen] at hr ⊢
    obtain ⟨y, -, -, -, h5, h6, -⟩ := hat r hr c hcc
    rw [h5]; omega
  · rw [hlen] at hr
    obtain ⟨y, h2, h3, h4, h5, h6, h7⟩ := hat r hr c hcc
    obtain ⟨z, k2, k3, k4, k5, k6, k7⟩ := hat (num s y) h6 (flp c) (flp_lt2 hcc)
    rw [h5, Int.toNat_natCast, k5]
    rw [h7] at k2
    have hb := h2.back hI (hrow r hr).1 hcc
    unfold Edge at hb k2
    have : z = (liv s).getD r 0 := by omega
    rw [this, (hrow r hr).2.2]
  · rw [hlen] at hr
    obtain ⟨y, -, -, -, h5, -, -⟩ := hat r hr c hcc
    rw [h5]; omega
  · rw [hlen] at hx
    obtain ⟨h1, h2, h3⟩ := hrow x hx
    have hR := h.conn _ h1
    rw [h2] at hR
    have key : ∀ y, Reach g s.t 0 y → y < s.t.length ∧ s.rp y = y ∧ Reach g (tabS s) (num s 0) (num s y) := fun y hy => by
      induction hy with
      | refl => exact ⟨h.n1, h0, .refl _⟩
      | @step y z c _ hcc he ih =>
        obtain ⟨i1, i2, i3⟩ := ih
        obtain ⟨k1, k2⟩ := num_lt (n := s.t.length) i1 i2
        obtain ⟨z', j2, j3, j4, j5, -, -⟩ := hat (num s y) k1 c hcc
        rw [show (liv s).getD (num s y) 0 = y from k2] at j2
        have : z = z' := by unfold Edge at he j2; omega
        subst this
        exact ⟨j4, j3, .step i3 hcc j5⟩
    have := (key _ hR).2.2
    rw [h3] at this
    have hz : num s 0 = 0 := rfl
    rwa [hz] at this
/-- the table that an enumeration ends with, made standard -/
theorem tab_std (hg1 : 1 ≤ g) (hg16 : g ≤ 16) (hlim : lim ≤ 20000) (h : Good g lim s) (hc : Comp g s s.t.length) : TGood g (tabS s) ∧ stdE g (tabS s) 0 = (outTo (ord (tabS s) 0) (tabS s) (tabS s).length, 0) := by
  obtain ⟨a, b, c⟩ := tab_good hg1 hg16 hlim h hc
  refine ⟨a, ?_⟩
  have hn1 := a.n1
  unfold stdE
  rw [check_of_good a, if_neg (by simp), if_neg (by omega), std_of_reach a b c]
end
end Go.Proofs.Ct
namespace Go.Proofs.Ct
section
variable {g lim : Nat} {s s0 s1 : St} {rels sub : List W}
theorem fillF_closed : ∀ (fuel : Nat) {s : St}, Good g lim s → ∀ {r : Nat}, r < s.t.length → s.rp r = r → ∀ {w : W}, LOk g w → ∀ s', fillF (2 * g) lim fuel s r w = some s' → Clo s' r w
  | 0, _, _, _, _, _, _, _, s', e => by cases e
  | fuel + 1, s, h, r, hr, hl, w, hw, s', e => by
    obtain ⟨a, b⟩ := scan_rest h.rest hr hl hw
    unfold fillF at e
    cases hsc : scanS (2 * g) s r w with
    | mk s2 o =>
      rw [hsc] at e
      cases o with
      | none =>
        simp only at e
        cases e
        exact scan_closed h.rest hr hl hw hsc
      | some fc =>
        obtain ⟨f, c⟩ := fc
        simp only at e
        obtain ⟨-, h2, h3, h4, h5⟩ := b _ _ _ hsc
        split at e
        · cases e
        · rename_i hne
          obtain ⟨k1, k2⟩ := h.defn h2 h3 h4 h5 (by have := h.n2; omega)
          have hn := length_def (s := s) (2 * g) f c
          exact fillF_closed fuel k1 (r := r) (by omega) (by rw [rp_def_old h.rest.inv _ _ _ hr]; exact hl) hw s' e
theorem fill_closed (h : Good g lim s) {r : Nat} (hr : r < s.t.length) (hl : s.rp r = r) {w : W} (hw : LOk g w) {s' : St} (e : fillS (2 * g) lim s r w = some s') : Clo s' r w := fillF_closed _ h hr hl hw s' e
/-- the relators are closed at the cosets below k -/
def RC (rels : List W) (s : St) (k : Nat) : Prop := ∀ x, x < k → x < s.t.length → ∀ i, i < rels.length → Clo s x (rels.getD i [])
theorem RC.ext (h0 : Rest g s0) (h : Ext g s0 s1) (hr : ∀ j, j < rels.length → LOk g (rels.getD j [])) {k : Nat} (hk : k ≤ s0.t.length) (hc : RC rels s0 k) : RC rels s1 k := fun x hx _ i hi =>
  (hc x hx (by omega) i hi).ext h0 h (by omega) (hr i hi)
theorem clo_rp (h : Inv g s) {r : Nat} (hr : r < s.t.length) {w : W} (hc : Clo s (s.rp r) w) : Clo s r w := by
  unfold Clo at hc ⊢
  rwa [h.rid r hr] at hc
theorem rel_closed (hs : ∀ j, j < rels.length → LOk g (rels.getD j [])) {r : Nat} (h : Good g lim s) (hr : r < s.t.length) (hC : RC rels s r) {s' : St} {k : Nat} (e : optTo (relS (2 * g) lim rels r) k s = some s') :
    Good g lim s' ∧ Ext g s s' ∧ ∀ j, j < k → j < rels.length → Clo s' r (rels.getD j []) :=
  optTo_inv (p := fun k x => Good g lim x ∧ Ext g s x ∧ ∀ j, j < k → j < rels.length → Clo x r (rels.getD j [])) ⟨h, Ext.refl h.rest, fun j hj => absurd hj (by omega)⟩ k (fun i x y _ ⟨hx, hx2, hx3⟩ hy => by
    have hrx : r < x.t.length := Nat.lt_of_lt_of_le hr hx2.n
    unfold relS at hy
    split at hy
    · rename_i hl
      obtain ⟨a, b⟩ := fill_good hx hrx hl (getD_all hs LOk.nil i) hy
      refine ⟨a, hx2.trans h.rest hx.rest b, fun j hj hjl => ?_⟩
      by_cases e : j = i
      · subst e
        exact fill_closed hx hrx hl (hs j hjl) hy
      · exact (hx3 j (by omega) hjl).ext hx.rest b hrx (hs j hjl)
    · rename_i hl
      cases hy
      refine ⟨hx, hx2, fun j hj hjl => ?_⟩
      have h1 := hx.rest.inv.rle r hrx
      have hC' := RC.ext h.rest hx2 hs (by omega) hC
      exact clo_rp hx.rest.inv hrx (hC' (x.rp r) (by omega) (by omega) j hjl)) s' e
theorem row_closed (hs : ∀ j, j < rels.length → LOk g (rels.getD j [])) {r : Nat} (h : Good g lim s) (hr : r < s.t.length) (hC : RC rels s r) {s' : St} (e : rowS (2 * g) lim rels r s = some s') : RC rels s' (r + 1) := by
  unfold rowS at e
  cases hx : optTo (relS (2 * g) lim rels r) rels.length s with
  | none => rw [hx] at e; cases e
  | some x =>
    rw [hx] at e
    obtain ⟨a, b, c⟩ := rel_closed hs h hr hC hx
    have hrx : r < x.t.length := Nat.lt_of_lt_of_le hr b.n
    obtain ⟨a2, b2, -, -⟩ := col_good a hrx (Nat.le_refl _) e
    have hE := b.trans h.rest a.rest b2
    intro y hy hyn i hi
    rcases Nat.lt_or_ge y r with h1 | h1
    · exact RC.ext h.rest hE hs (by omega) hC y h1 hyn i hi
    · obtain rfl : y = r := by omega
      exact (c i hi hi).ext a.rest b2 hrx (hs i hi)
theorem sub_closed (hg : 1 ≤ lim) (hs : ∀ j, j < sub.length → LOk g (sub.getD j [])) {s' : St} {k : Nat} (e : optTo (subS (2 * g) lim sub) k (startS (2 * g)) = some s') :
    Good g lim s' ∧ ∀ j, j < k → j < sub.length → Clo s' 0 (sub.getD j []) :=
  optTo_inv (p := fun k s => Good g lim s ∧ ∀ j, j < k → j < sub.length → Clo s 0 (sub.getD j [])) ⟨start_good hg, fun j hj => absurd hj (by omega)⟩ k (fun i x y _ ⟨hx, hx2⟩ hy => by
    obtain ⟨a, b⟩ := fill_good hx hx.n1 (rp_zero hx.rest hx.n1) (getD_all hs LOk.nil i) hy
    refine ⟨a, fun j hj hjl => ?_⟩
    by_cases e : j = i
    · subst e
      exact fill_closed hx hx.n1 (rp_zero hx.rest hx.n1) (hs j hjl) hy
    · exact (hx2 j (by omega) hjl).ext hx.rest b hx.n1 (hs j hjl)) s' e
theorem run_closed (hg : 1 ≤ lim) (hr : ∀ j, j < rels.length → LOk g (rels.getD j [])) (hs : ∀ j, j < sub.length → LOk g (sub.getD j [])) {s' : St} (e : runS (2 * g) lim rels sub = some s') :
    RC rels s' s'.t.length ∧ ∀ j, j < sub.length → Clo s' 0 (sub.getD j []) := by
  unfold runS at e
  cases hx : optTo (subS (2 * g) lim sub) sub.length (startS (2 * g)) with
  | none => rw [hx] at e; cases e
  | some x =>
    rw [hx] at e
    obtain ⟨hG, hsub⟩ := sub_closed hg hs hx
    obtain ⟨a, b, c⟩ := optTo_inv (p := fun k y => Good g lim y ∧ (RC rels y k ∧ Comp g y k) ∧ ∀ j, j < sub.length → Clo y 0 (sub.getD j [])) ⟨hG, ⟨fun x hx => absurd hx (by omega), fun x hx => absurd hx (by omega)⟩, fun j hj => hsub j hj hj⟩ lim (fun r x y _ ⟨hx1, ⟨hx2, hx3⟩, hx4⟩ hy => by
      unfold rowsS at hy
      split at hy
      · rename_i hlt
        obtain ⟨a, b, c⟩ := row_good hr hx1 hlt hx3 hy
        exact ⟨a, ⟨row_closed hr hx1 hlt hx2 hy, c⟩, fun j hj => (hx4 j hj).ext hx1.rest b hx1.n1 (hs j hj)⟩
      · rename_i hlt
        cases hy
        exact ⟨hx1, ⟨fun z _ hzn => hx2 z (by omega) hzn, fun z _ hzn c hcc => hx3 z (by omega) hzn c hcc⟩, hx4⟩) s' e
    exact ⟨fun z hz hzn => b.1 z (by have := a.n2; omega) hzn, c⟩
/-- an edge of the table of the living -/
theorem tab_edge (h : Rest g s) {x y c : Nat} (hx : x < s.t.length) (hc : c < 2 * g) (he : Edge s.t x c y) : num s x < (tabS s).length ∧ Edge (tabS s) (num s x) c (num s y) := by
  obtain ⟨h1, h2, h3⟩ := h.live hx hc he
  obtain ⟨k1, k2⟩ := num_lt (n := s.t.length) hx h1
  refine ⟨by rw [length_tab]; exact k1, ?_⟩
  unfold Edge
  have h4 : (liv s).getD (num s x) 0 = x := k2
  rw [at_tab k1 (by rw [h4, h.inv.len x hx]; exact hc), h4, show s.t.at x c = (y : Int) from he, Int.toNat_natCast]
theorem tab_way (h : Rest g s) : ∀ {w : W} {x y : Nat}, LOk g w → x < s.t.length → Way s.t x w y → Way (tabS s) (num s x) w (num s y) := by
  intro w
  induction w with
  | nil => intro x y _ _ e; have e : x = y := e; rw [e]; exact rfl
  | cons l w ih =>
    rintro x y hw hx ⟨z, h1, h2⟩
    have hz := h1.lt h.inv hx (col_ltL hw.cons.1)
    exact ⟨_, (tab_edge h hx (col_ltL hw.cons.1) h1).2, ih hw.cons.2 hz h2⟩
/-- the words that are closed, in the table of the living -/
theorem tab_closed (h : Rest g s) (hr : ∀ j, j < rels.length → LOk g (rels.getD j [])) (hC : RC rels s s.t.length) : ∀ i, i < (tabS s).length → ∀ j, j < rels.length → Way (tabS s) i (rels.getD j []) i := fun i hi j hj => by
  rw [length_tab] at hi
  obtain ⟨h1, h2, h3⟩ := livTo_at (s := s) s.t.length i hi
  have := hC _ h1 h1 j hj
  unfold Clo at this
  rw [h2] at this
  have h4 := tab_way h (hr j hj) h1 this
  rwa [h3] at h4
theorem tab_closed0 (h : Rest g s) (hn : 1 ≤ s.t.length) {w : W} (hw : LOk g w) (hC : Clo s 0 w) : Way (tabS s) 0 w 0 := by
  unfold Clo at hC
  rw [rp_zero h hn] at hC
  exact tab_way h hw hn hC
end
end Go.Proofs.Ct
