/- Ways of words; what was scanned is closed; The standard table, plainly: what a walk along the order shows; Coset enumeration, plainly: the table of the living, and that it can be made standard; What an enumeration ends with, plainly: relators are closed everywhere, the subgroup's words at 0; the table of the living; Tables that are full, maps between them, and the standard table as a table with other numbers. -/
import Derived.Test.YtmpnengjboabcaaTpCS2
import Derived.Test.YtmpnengjboabcaaTpCS1
namespace Go.Proofs.Ct
/-- a word leads from x to y -/
def Way (t : Tb) : Nat → W → Nat → Prop
  | x, [], y => x = y
  | x, l :: w, y => ∃ z, Edge t x (col l) z ∧ Way t z w y
section
variable {t : Tb} {g : Nat} {s s0 s1 : St}
theorem way_app {u v : W} : ∀ {x y : Nat}, Way t x (u ++ v) y ↔ ∃ z, Way t x u z ∧ Way t z v y := by
  induction u with
  | nil => intro x y; exact ⟨fun h => ⟨x, rfl, h⟩, fun ⟨z, h1, h2⟩ => by have e : x = z := h1; subst e; exact h2⟩
  | cons l u ih =>
    intro x y
    constructor
    · rintro ⟨z, h1, h2⟩
      obtain ⟨z', h3, h4⟩ := ih.1 h2
      exact ⟨z', ⟨z, h1, h3⟩, h4⟩
    · rintro ⟨z', ⟨z, h1, h3⟩, h4⟩
      exact ⟨z, h1, ih.2 ⟨z', h3, h4⟩⟩
theorem way_one {x y : Nat} {l : Int} : Way t x [l] y ↔ Edge t x (col l) y := ⟨fun ⟨z, h1, h2⟩ => by have e : z = y := h2; subst e; exact h1, fun h => ⟨y, h, rfl⟩⟩
theorem take_snocW {w : W} {k : Nat} (h : k < w.length) : w.take (k + 1) = w.take k ++ [w.getD k 0] := by
  rw [List.take_add_one, List.getD_eq_getElem?_getD, List.getElem?_eq_getElem h]; rfl
theorem way_of_lead {r : Nat} {w : W} : ∀ (k : Nat), k ≤ w.length → 0 ≤ leadTo t r w k → Way t r (w.take k) (leadTo t r w k).toNat
  | 0, _, _ => by
    rw [List.take_zero]
    show r = ((r : Int)).toNat
    omega
  | k + 1, hk, h => by
    rw [leadTo_succ] at h ⊢
    by_cases h1 : leadTo t r w k < 0
    · rw [if_pos h1] at h; omega
    · rw [if_neg h1] at h ⊢
      have ih := way_of_lead (r := r) (w := w) k (by omega) (by omega)
      rw [take_snocW (by omega)]
      refine way_app.2 ⟨_, ih, way_one.2 ?_⟩
      unfold Edge
      omega
theorem lead_of_way {r : Nat} {w : W} : ∀ (k : Nat), k ≤ w.length → ∀ {y : Nat}, Way t r (w.take k) y → leadTo t r w k = (y : Int)
  | 0, _, y, h => by
    rw [List.take_zero] at h
    have e : r = y := h
    subst e; rfl
  | k + 1, hk, y, h => by
    rw [take_snocW (by omega)] at h
    obtain ⟨z, h1, h2⟩ := way_app.1 h
    have ih := lead_of_way k (by omega) h1
    rw [leadTo_succ, ih, if_neg (by omega), Int.toNat_natCast]
    exact way_one.1 h2
theorem leads_iff {r y : Nat} {w : W} : leads t r w = (y : Int) ↔ Way t r w y := by
  constructor
  · intro h
    have := way_of_lead (t := t) (r := r) w.length (Nat.le_refl _) (by show 0 ≤ leads t r w; omega)
    rw [List.take_length] at this
    have e : (leadTo t r w w.length).toNat = y := by show (leads t r w).toNat = y; omega
    rwa [e] at this
  · intro h
    exact lead_of_way w.length (Nat.le_refl _) (by rw [List.take_length]; exact h)
theorem LOk.cons {l : Int} {w : W} (h : LOk g (l :: w)) : (-(g : Int) ≤ l ∧ l ≤ g ∧ l ≠ 0) ∧ LOk g w := ⟨h l (List.mem_cons_self ..), fun x hx => h x (List.mem_cons_of_mem _ hx)⟩
theorem col_ltL {l : Int} (h : -(g : Int) ≤ l ∧ l ≤ g ∧ l ≠ 0) : col l < 2 * g := by unfold col; split <;> omega
theorem inv_cons (l : Int) (w : W) : inv (l :: w) = inv w ++ [-l] := by simp [inv]
theorem inv_inv (w : W) : inv (inv w) = w := by simp [inv, Function.comp_def]
theorem inv_app (u v : W) : inv (u ++ v) = inv v ++ inv u := by simp [inv]
theorem way_inv (h : Inv g s) : ∀ {w : W} {x y : Nat}, LOk g w → x < s.t.length → Way s.t x w y → Way s.t y (inv w) x := by
  intro w
  induction w with
  | nil => intro x y _ _ h; exact Eq.symm h
  | cons l w ih =>
    rintro x y hw hx ⟨z, h1, h2⟩
    rw [inv_cons]
    refine way_app.2 ⟨z, ih hw.cons.2 (h1.lt h hx (col_ltL hw.cons.1)) h2, way_one.2 ?_⟩
    rw [col_inv hw.cons.1.2.2]
    exact h1.back h hx (col_ltL hw.cons.1)
theorem way_ext (h0 : Inv g s0) (h : Ext g s0 s1) : ∀ {w : W} {x y : Nat}, LOk g w → x < s0.t.length → Way s0.t x w y → Way s1.t (s1.rp x) w (s1.rp y) := by
  intro w
  induction w with
  | nil => intro x y _ _ h; have e : x = y := h; subst e; exact rfl
  | cons l w ih =>
    rintro x y hw hx ⟨z, h1, h2⟩
    have hz := h1.lt h0 hx (col_ltL hw.cons.1)
    exact ⟨_, h.edge _ _ _ hx (col_ltL hw.cons.1) h1, ih hw.cons.2 hz h2⟩
/-- a word is closed at a coset -/
def Clo (s : St) (r : Nat) (w : W) : Prop := Way s.t (s.rp r) w (s.rp r)
theorem Clo.ext (h0 : Rest g s0) (h : Ext g s0 s1) {r : Nat} (hr : r < s0.t.length) {w : W} (hw : LOk g w) (hc : Clo s0 r w) : Clo s1 r w := by
  have := way_ext h0.inv h hw (h0.inv.rlt hr) hc
  rwa [h.coarse r hr] at this
theorem drop_inv {w : W} {k : Nat} (hk : k ≤ w.length) : inv ((inv w).take k) = w.drop (w.length - k) := by
  have h1 : inv w = inv (w.drop (w.length - k)) ++ inv (w.take (w.length - k)) := by rw [← inv_app, List.take_append_drop]
  have h2 : (inv (w.drop (w.length - k))).length = k := by rw [length_inv, List.length_drop]; omega
  rw [h1, List.take_append_of_le_length (by omega), List.take_of_length_le (by omega), inv_inv]
theorem scan_closed (h : Rest g s) {r : Nat} (hr : r < s.t.length) (hlr : s.rp r = r) {w : W} (hw : LOk g w) {s' : St} (e : scanS (2 * g) s r w = (s', none)) : Clo s' r w := by
  obtain ⟨f1, f2, f3⟩ := fwd_spec s.t r w
  have fp := fwd_pos s.t r w
  obtain ⟨b1, b2, b3⟩ := bwd_spec s.t r w (fwd s.t r w)
  have bp := bwd_pos s.t r w (fwd s.t r w)
  obtain ⟨fl, flv⟩ := lead_live h hw hr hlr _ f1 fp
  obtain ⟨bl, blv⟩ := lead_live h hw.inv hr hlr _ (by rw [length_inv]; exact b1) bp
  have hF := way_of_lead _ f1 fp
  have hB := way_inv h.inv (fun x hx => hw.inv x (List.mem_of_mem_take hx)) hr (way_of_lead _ (by rw [length_inv]; exact b1) bp)
  rw [drop_inv b1] at hB
  have hnext : fwd s.t r w < w.length → s.t.at (leadTo s.t r w (fwd s.t r w)).toNat (col (w.getD (fwd s.t r w) 0)) < 0 := fun hlt => by
    rcases f2 with f2 | f2
    · omega
    · rw [leadTo_succ, if_neg (by omega)] at f2
      exact f2
  have hback : ¬ w.length ≤ fwd s.t r w + bwd s.t r w (fwd s.t r w) → s.t.at (leadTo s.t r (Ct.inv w) (bwd s.t r w (fwd s.t r w))).toNat (col ((Ct.inv w).getD (bwd s.t r w (fwd s.t r w)) 0)) < 0 := fun hlt => by
    rcases b2 with b2 | b2
    · omega
    · rw [leadTo_succ, if_neg (by omega)] at b2
      exact b2
  have hik : fwd s.t r w + bwd s.t r w (fwd s.t r w) ≤ w.length := by
    rcases Nat.eq_zero_or_pos (bwd s.t r w (fwd s.t r w)) with h0 | h0
    · omega
    · have := (b3 (bwd s.t r w (fwd s.t r w) - 1) (by omega)).1
      omega
  have hwt : ∀ k, LOk g (w.take k) := fun k x hx => hw x (List.mem_of_mem_take hx)
  have hwd : ∀ k, LOk g (w.drop k) := fun k x hx => hw x (List.mem_of_mem_drop hx)
  unfold scanS at e
  generalize hi : fwd s.t r w = i at *
  generalize hk : bwd s.t r w i = k at *
  generalize leadTo s.t r w i = f at *
  generalize leadTo s.t r (Ct.inv w) k = b at *
  unfold Clo
  by_cases h1 : i = w.length
  · rw [if_pos h1] at e
    rw [h1, List.take_length] at hF
    by_cases h2 : f = (r : Int)
    · rw [if_pos h2] at e
      cases e
      rw [hlr]
      rw [h2, Int.toNat_natCast] at hF
      exact hF
    · rw [if_neg h2] at e
      cases e
      obtain ⟨c1, c2, c3, c4⟩ := coin_rest h fl hr
      have := way_ext h.inv (Ext.of_cov c1 c2) hw hr hF
      rwa [c3] at this
  · rw [if_neg h1] at e
    by_cases h2 : w.length ≤ i + k
    · rw [if_pos h2] at e
      cases e
      obtain ⟨c1, c2, c3, c4⟩ := coin_rest h fl bl
      have hE := Ext.of_cov c1 c2
      rw [show w.length - k = i by omega] at hB
      have w1 := way_ext h.inv hE (hwt i) hr hF
      have w2 := way_ext h.inv hE (hwd i) bl hB
      rw [c3] at w1
      have := way_app.2 ⟨_, w1, w2⟩
      rwa [List.take_append_drop] at this
    · rw [if_neg h2] at e
      have hil : i < w.length := by omega
      by_cases h3 : w.length = i + k + 1
      · rw [if_pos h3] at e
        cases e
        have hb := hback h2
        rw [inv_getD (by omega), show w.length - 1 - k = i by omega, col_inv (hw.getD hil).2.2] at hb
        obtain ⟨c1, c2, c3⟩ := h.join fl bl (hw.col hil) flv blv (hnext hil) hb
        rw [show w.length - k = i + 1 by omega] at hB
        have w1 := way_ext h.inv c2 (hwt i) hr hF
        have w2 := way_ext h.inv c2 (hwd (i + 1)) bl hB
        rw [rp_joinS, rp_joinS, hlr, flv] at w1
        rw [rp_joinS, rp_joinS, hlr, blv] at w2
        rw [rp_joinS, hlr]
        have := way_app.2 ⟨_, way_app.2 ⟨_, w1, way_one.2 c3⟩, w2⟩
        rwa [← take_snocW hil, List.take_append_drop] at this
      · rw [if_neg h3] at e
        cases e
end
end Go.Proofs.Ct
namespace Go.Proofs.Ct
def outTo (o : List Int) (t : Tb) (k : Nat) : Tb := (List.range k).map fun i => (t.row (o.getD i 0).toNat).map (numOf o)
theorem length_outTo (o : List Int) (t : Tb) (k : Nat) : (outTo o t k).length = k := by simp [outTo]
theorem outTo_succ (o : List Int) (t : Tb) (k : Nat) : outTo o t (k + 1) = outTo o t k ++ [(t.row (o.getD k 0).toNat).map (numOf o)] := by simp [outTo, List.range_succ]
theorem map_take_succ {f : Int → Int} {row : List Int} {j : Nat} (h : j < row.length) : (row.take (j + 1)).map f = (row.take j).map f ++ [f (row.getD j 0)] := by
  rw [List.take_succ_eq_append_getElem h, List.map_append, List.getD_eq_getElem?_getD, List.getElem?_eq_getElem h]
  rfl
theorem outTo_full {o : List Int} {t : Tb} : outTo o t o.length = o.map fun r => (t.row r.toNat).map (numOf o) := by
  apply List.ext_getElem
  · simp [outTo]
  · intro i h1 h2
    have h3 : i < o.length := by simpa using h2
    simp [outTo, List.getD_eq_getElem?_getD, h3]
theorem neg_true {t : Tb} {r c : Nat} (hr : r < t.length) (hc : c < (t.row r).length) (h : (t.row r).getD c 0 < 0) : t.any neg = true := by
  rw [List.any_eq_true]
  refine ⟨_, row_of_mem hr, ?_⟩
  unfold neg
  rw [List.any_eq_true]
  refine ⟨(t.row r).getD c 0, ?_, by simpa using h⟩
  rw [List.getD_eq_getElem?_getD, List.getElem?_eq_getElem hc]
  exact List.getElem_mem hc
theorem std_neg {t : Tb} {b : Int} (h : t.any neg = true) : std t b = none := by
  unfold std
  rw [if_neg (by simp [h])]
theorem std_short {t : Tb} {b : Int} (h : (ord t b).length ≠ t.length) : std t b = none := by
  unfold std
  rw [if_neg (fun hc => h hc.1)]
theorem neg_false {t : Tb} (h : ∀ r, r < t.length → ∀ c, c < (t.row r).length → 0 ≤ (t.row r).getD c 0) : t.any neg = false := by
  rw [List.any_eq_false]
  intro row hrow
  obtain ⟨r, hr, rfl⟩ := List.mem_iff_getElem.1 hrow
  have e : t.row r = t[r] := by unfold Tb.row; rw [List.getD_eq_getElem?_getD, List.getElem?_eq_getElem hr]; rfl
  intro hn
  unfold neg at hn
  rw [List.any_eq_true] at hn
  obtain ⟨x, hx, hx0⟩ := hn
  obtain ⟨c, hc, rfl⟩ := List.mem_iff_getElem.1 hx
  have := h r hr c (by rw [e]; exact hc)
  rw [e, List.getD_eq_getElem?_getD, List.getElem?_eq_getElem hc] at this
  simp at this hx0
  omega
theorem std_full {g : Nat} {t : Tb} (hg : TGood g t) {b : Int} (hb : 0 ≤ b) (hb' : b < t.length) (hl : (ord t b).length = t.length) (h : ∀ j, j < t.length → ∀ c, c < (t.row ((ord t b).getD j 0).toNat).length → 0 ≤ (t.row ((ord t b).getD j 0).toNat).getD c 0) :
    std t b = some (outTo (ord t b) t t.length) := by
  have hC : Cos t.length (ord t b) := Cos.ordTo hg hb hb' t.length
  have hn : t.any neg = false := neg_false fun r hr c hc => by
    have hm := mem_of_full hC hl r hr
    obtain ⟨j, hj, he⟩ := List.mem_iff_getElem.1 hm
    have h2 := h j (by omega) c
    have e : (ord t b).getD j 0 = (r : Int) := by rw [List.getD_eq_getElem?_getD, List.getElem?_eq_getElem hj]; simpa using he
    rw [e] at h2
    simp only [Int.toNat_natCast] at h2
    exact h2 hc
  unfold std
  rw [if_pos ⟨hl, hn⟩]
  rw [← outTo_full, hl]
theorem ord_end {t : Tb} {b : Int} {k : Nat} (h : (ordTo t b k).length ≤ k) (hk : k ≤ t.length) : ord t b = ordTo t b k := ordTo_stable t b h hk
theorem numOf_bd {l : List Int} {x : Int} : 0 ≤ numOf l x ∧ numOf l x ≤ l.length := by
  unfold numOf
  have := List.idxOf_le_length (a := x) (l := l)
  omega
end Go.Proofs.Ct
namespace Go.Proofs.Ct
def livTo (s : St) (n : Nat) : List Nat := (List.range n).filter fun x => decide (s.rp x = x)
def liv (s : St) : List Nat := livTo s s.t.length
/-- the number of a live coset: how many live before it -/
def num (s : St) (x : Nat) : Nat := (livTo s x).length
def tabS (s : St) : Tb := (liv s).map fun x => (s.t.row x).map fun v => (num s v.toNat : Int)
theorem livTo_succ (s : St) (n : Nat) : livTo s (n + 1) = if s.rp n = n then livTo s n ++ [n] else livTo s n := by
  unfold livTo
  rw [List.range_succ, List.filter_append]
  simp only [List.filter_cons, List.filter_nil, decide_eq_true_eq]
  split <;> simp
theorem livTo_pre (s : St) {a b : Nat} (h : a ≤ b) : livTo s a <+: livTo s b := by
  induction b with
  | zero => rw [show a = 0 by omega]; exact List.prefix_rfl
  | succ b ih =>
    by_cases e : a = b + 1
    · rw [e]; exact List.prefix_rfl
    · refine (ih (by omega)).trans ?_
      rw [livTo_succ]
      split
      · exact ⟨_, rfl⟩
      · exact List.prefix_rfl
theorem num_lt {s : St} {x n : Nat} (hx : x < n) (hl : s.rp x = x) : num s x < (livTo s n).length ∧ (livTo s n).getD (num s x) 0 = x := by
  have h1 : livTo s (x + 1) = livTo s x ++ [x] := by rw [livTo_succ, if_pos hl]
  obtain ⟨r, hr⟩ := livTo_pre s (show x + 1 ≤ n from hx)
  rw [← hr, h1]
  unfold num
  simp [List.getD_eq_getElem?_getD]
theorem livTo_at {s : St} : ∀ (n i : Nat), i < (livTo s n).length → (livTo s n).getD i 0 < n ∧ s.rp ((livTo s n).getD i 0) = (livTo s n).getD i 0 ∧ num s ((livTo s n).getD i 0) = i
  | 0, i, h => by simp [livTo] at h
  | n + 1, i, h => by
    rw [livTo_succ] at h ⊢
    by_cases hl : s.rp n = n
    · rw [if_pos hl] at h ⊢
      rcases Nat.lt_or_ge i (livTo s n).length with h1 | h1
      · have : (livTo s n ++ [n]).getD i 0 = (livTo s n).getD i 0 := by simp [List.getD_eq_getElem?_getD, List.getElem?_append_left h1]
        rw [this]
        obtain ⟨a, b, c⟩ := livTo_at n i h1
        exact ⟨by omega, b, c⟩
      · have hi : i = (livTo s n).length := by simp at h; omega
        have : (livTo s n ++ [n]).getD i 0 = n := by rw [hi]; simp [List.getD_eq_getElem?_getD]
        rw [this, hi]
        exact ⟨by omega, hl, rfl⟩
    · rw [if_neg hl] at h ⊢
      obtain ⟨a, b, c⟩ := livTo_at n i h
      exact ⟨by omega, b, c⟩
theorem livTo_le (s : St) (n : Nat) : (livTo s n).length ≤ n := by
  have := List.length_filter_le (fun x => decide (s.rp x = x)) (List.range n)
  simpa [livTo] using this
theorem length_tab (s : St) : (tabS s).length = (liv s).length := by simp [tabS]
theorem row_tab {s : St} {i : Nat} (h : i < (liv s).length) : (tabS s).row i = (s.t.row ((liv s).getD i 0)).map fun v => (num s v.toNat : Int) := by
  unfold tabS Tb.row
  simp [List.getD_eq_getElem?_getD, h]
theorem at_tab {s : St} {i c : Nat} (h : i < (liv s).length) (hc : c < (s.t.row ((liv s).getD i 0)).length) : (tabS s).at i c = (num s (s.t.at ((liv s).getD i 0) c).toNat : Int) := by
  unfold Tb.at
  rw [row_tab h]
  generalize s.t.row ((liv s).getD i 0) = row at *
  simp [List.getD_eq_getElem?_getD, hc]
/-- a table in which all can be reached has a full order -/
theorem ord_closed {g : Nat} {t : Tb} (hg : TGood g t) (hpos : ∀ r, r < t.length → ∀ c, c < 2 * g → 0 ≤ t.at r c) {x : Nat} (hx : x < t.length) (hm : (x : Int) ∈ ord t 0) {c : Nat} (hc : c < 2 * g) : t.at x c ∈ ord t 0 := by
  have hn1 := hg.n1
  have hC := Cos.ordTo hg (b := 0) (by omega) (by omega) t.length
  have hle := length_le_of_nodup hC
  obtain ⟨j, hj, he⟩ := List.mem_iff_getElem.1 hm
  have hjl : j < t.length := Nat.lt_of_lt_of_le hj hle
  have hlt : j < (ordTo t 0 j).length := by
    rcases Nat.lt_or_ge j (ordTo t 0 j).length with h | h
    · exact h
    · have := ordTo_stable t 0 h (by omega : j ≤ t.length)
      unfold ord at hj
      rw [this] at hj
      omega
  have hget : (ordTo t 0 j).getD j 0 = (x : Int) := by
    rw [← pre_get (ordTo_mono t 0 (by omega : j ≤ t.length)) hlt]
    unfold ord at he hj
    rw [List.getD_eq_getElem?_getD, List.getElem?_eq_getElem hj]
    simpa using he
  have hstep : ordTo t 0 (j + 1) = visitTo (t.row x) (t.row x).length (ordTo t 0 j) := by
    rw [ordTo, if_pos hlt, hget, Int.toNat_natCast]
  have hp := hpos x hx c hc
  have hmem : t.at x c ∈ ordTo t 0 (j + 1) := by
    rw [hstep]
    exact mem_visitTo (by rw [hg.len x hx]; exact hc) hp _
  exact (ordTo_mono t 0 (by omega : j + 1 ≤ t.length)).subset hmem
theorem ge_of_all : ∀ (n : Nat) (l : List Int), (∀ r : Nat, r < n → (r : Int) ∈ l) → n ≤ l.length
  | 0, _, _ => Nat.zero_le _
  | n + 1, l, h => by
    have hm := h n (by omega)
    have := ge_of_all n (l.erase n) fun r hr => (List.mem_erase_of_ne (by omega : (r : Int) ≠ (n : Int))).2 (h r (by omega))
    rw [List.length_erase_of_mem hm] at this
    have h1 : 0 < l.length := List.length_pos_of_mem hm
    omega
theorem std_of_reach {g : Nat} {t : Tb} (hg : TGood g t) (hpos : ∀ r, r < t.length → ∀ c, c < 2 * g → 0 ≤ t.at r c) (hr : ∀ x, x < t.length → Reach g t 0 x) : std t 0 = some (outTo (ord t 0) t t.length) := by
  have hn1 := hg.n1
  have hin : ∀ x, Reach g t 0 x → x < t.length ∧ (x : Int) ∈ ord t 0 := fun x hx => by
    induction hx with
    | refl => exact ⟨hg.n1, (ordTo_mono t 0 (Nat.zero_le t.length)).subset (by simp [ordTo])⟩
    | @step y z c _ hc he ih =>
      obtain ⟨h1, h2⟩ := ih
      have h3 := ord_closed hg hpos h1 h2 hc
      rw [show t.at y c = (z : Int) from he] at h3
      have := (hg.bd y h1 c hc).2
      rw [show t.at y c = (z : Int) from he] at this
      exact ⟨by omega, h3⟩
  have hC := Cos.ordTo hg (b := 0) (by omega) (by omega) t.length
  have hl : (ord t 0).length = t.length := Nat.le_antisymm (length_le_of_nodup hC) (ge_of_all _ _ fun r hr' => (hin r (hr r hr')).2)
  refine std_full hg (by omega) (by omega) hl fun j hj c hc => ?_
  have hget := hC.get (k := j) (by show j < (ord t 0).length; omega)
  have hrow : ((ord t 0).getD j 0).toNat < t.length := by
    have h1 : (ordTo t 0 t.length).getD j 0 = (ord t 0).getD j 0 := rfl
    omega
  exact hpos _ hrow c (by rw [hg.len _ hrow] at hc; exact hc)
section
variable {g lim : Nat} {s : St}
theorem tab_good (hg1 : 1 ≤ g) (hg16 : g ≤ 16) (hlim : lim ≤ 20000) (h : Good g lim s) (hc : Comp g s s.t.length) :
    TGood g (tabS s) ∧ (∀ r, r < (tabS s).length → ∀ c, c < 2 * g → 0 ≤ (tabS s).at r c) ∧ (∀ x, x < (tabS s).length → Reach g (tabS s) 0 x) := by
  have hI := h.rest.inv
  have h0 := rp_zero h.rest h.n1
  have hpos0 : 0 < (liv s).length := by
    have := (num_lt h.n1 h0).1
    unfold liv
    omega
  have hlen := length_tab s
  -- the row of a live coset
  have hrow : ∀ i, i < (liv s).length → (liv s).getD i 0 < s.t.length ∧ s.rp ((liv s).getD i 0) = (liv s).getD i 0 ∧ num s ((liv s).getD i 0) = i := fun i hi => livTo_at _ i hi
  have hat : ∀ i, i < (liv s).length → ∀ c, c < 2 * g → ∃ y, Edge s.t ((liv s).getD i 0) c y ∧ s.rp y = y ∧ y < s.t.length ∧ (tabS s).at i c = (num s y : Int) ∧ num s y < (liv s).length ∧ (liv s).getD (num s y) 0 = y := fun i hi c hcc => by
    obtain ⟨h1, h2, h3⟩ := hrow i hi
    obtain ⟨y, hy⟩ := Int.eq_ofNat_of_zero_le (by have := hc _ h1 h1 c hcc; rwa [h2] at this)
    obtain ⟨-, h4, h5⟩ := h.rest.live h1 hcc (show Edge s.t _ _ y from hy)
    obtain ⟨h6, h7⟩ := num_lt (n := s.t.length) h5 h4
    refine ⟨y, hy, h4, h5, ?_, h6, h7⟩
    rw [at_tab hi (by rw [hI.len _ h1]; exact hcc), hy, Int.toNat_natCast]
  refine ⟨⟨hg1, hg16, by omega, ?_, fun r hr => ?_, fun r hr c hcc => ?_, fun r hr c hcc _ => ?_⟩, fun r hr c hcc => ?_, fun x hx => ?_⟩
  · have := livTo_le s s.t.length
    have := h.n2
    unfold liv at hlen
    omega
  · rw [hlen] at hr
    rw [row_tab hr, List.length_map, hI.len _ (hrow r hr).1]
  · rw [hlen] at hr ⊢
    obtain ⟨y, -, -, -, h5, h6, -⟩ := hat r hr c hcc
    rw [h5]; omega
  · rw [hlen] at hr
    obtain ⟨y, h2, h3, h4, h5, h6, h7⟩ := hat r hr c hcc
    obtain ⟨z, k2, k3, k4, k5, k6, k7⟩ := hat (num s y) h6 (flp c) (flp_lt2 hcc)
    rw [h5, Int.toNat_natCast, k5]
    rw [h7] at k2
    have hb := h2.back hI (hrow r hr).1 hcc
    unfold Edge at hb k2
    have : z = (liv s).getD r 0 := by omega
    rw [this, (hrow r hr).2.2]
  · rw [hlen] at hr
    obtain ⟨y, -, -, -, h5, -, -⟩ := hat r hr c hcc
    rw [h5]; omega
  · rw [hlen] at hx
    obtain ⟨h1, h2, h3⟩ := hrow x hx
    have hR := h.conn _ h1
    rw [h2] at hR
    have key : ∀ y, Reach g s.t 0 y → y < s.t.length ∧ s.rp y = y ∧ Reach g (tabS s) (num s 0) (num s y) := fun y hy => by
      induction hy with
      | refl => exact ⟨h.n1, h0, .refl _⟩
      | @step y z c _ hcc he ih =>
        obtain ⟨i1, i2, i3⟩ := ih
        obtain ⟨k1, k2⟩ := num_lt (n := s.t.length) i1 i2
        obtain ⟨z', j2, j3, j4, j5, -, -⟩ := hat (num s y) k1 c hcc
        rw [show (liv s).getD (num s y) 0 = y from k2] at j2
        have : z = z' := by unfold Edge at he j2; omega
        subst this
        exact ⟨j4, j3, .step i3 hcc j5⟩
    have := (key _ hR).2.2
    rw [h3] at this
    have hz : num s 0 = 0 := rfl
    rwa [hz] at this
/-- the table that an enumeration ends with, made standard -/
theorem tab_std (hg1 : 1 ≤ g) (hg16 : g ≤ 16) (hlim : lim ≤ 20000) (h : Good g lim s) (hc : Comp g s s.t.length) : TGood g (tabS s) ∧ stdE g (tabS s) 0 = (outTo (ord (tabS s) 0) (tabS s) (tabS s).length, 0) := by
  obtain ⟨a, b, c⟩ := tab_good hg1 hg16 hlim h hc
  refine ⟨a, ?_⟩
  have hn1 := a.n1
  unfold stdE
  rw [check_of_good a, if_neg (by simp), if_neg (by omega), std_of_reach a b c]
end
end Go.Proofs.Ct
namespace Go.Proofs.Ct
section
variable {g lim : Nat} {s s0 s1 : St} {rels sub : List W}
theorem fillF_closed : ∀ (fuel : Nat) {s : St}, Good g lim s → ∀ {r : Nat}, r < s.t.length → s.rp r = r → ∀ {w : W}, LOk g w → ∀ s', fillF (2 * g) lim fuel s r w = some s' → Clo s' r w
  | 0, _, _, _, _, _, _, _, s', e => by cases e
  | fuel + 1, s, h, r, hr, hl, w, hw, s', e => by
    obtain ⟨a, b⟩ := scan_rest h.rest hr hl hw
    unfold fillF at e
    cases hsc : scanS (2 * g) s r w with
    | mk s2 o =>
      rw [hsc] at e
      cases o with
      | none =>
        simp only at e
        cases e
        exact scan_closed h.rest hr hl hw hsc
      | some fc =>
        obtain ⟨f, c⟩ := fc
        simp only at e
        obtain ⟨-, h2, h3, h4, h5⟩ := b _ _ _ hsc
        split at e
        · cases e
        · rename_i hne
          obtain ⟨k1, k2⟩ := h.defn h2 h3 h4 h5 (by have := h.n2; omega)
          have hn := length_def (s := s) (2 * g) f c
          exact fillF_closed fuel k1 (r := r) (by omega) (by rw [rp_def_old h.rest.inv _ _ _ hr]; exact hl) hw s' e
theorem fill_closed (h : Good g lim s) {r : Nat} (hr : r < s.t.length) (hl : s.rp r = r) {w : W} (hw : LOk g w) {s' : St} (e : fillS (2 * g) lim s r w = some s') : Clo s' r w := fillF_closed _ h hr hl hw s' e
/-- the relators are closed at the cosets below k -/
def RC (rels : List W) (s : St) (k : Nat) : Prop := ∀ x, x < k → x < s.t.length → ∀ i, i < rels.length → Clo s x (rels.getD i [])
theorem RC.ext (h0 : Rest g s0) (h : Ext g s0 s1) (hr : ∀ j, j < rels.length → LOk g (rels.getD j [])) {k : Nat} (hk : k ≤ s0.t.length) (hc : RC rels s0 k) : RC rels s1 k := fun x hx _ i hi =>
  (hc x hx (by omega) i hi).ext h0 h (by omega) (hr i hi)
theorem clo_rp (h : Inv g s) {r : Nat} (hr : r < s.t.length) {w : W} (hc : Clo s (s.rp r) w) : Clo s r w := by
  unfold Clo at hc ⊢
  rwa [h.rid r hr] at hc
theorem rel_closed (hs : ∀ j, j < rels.length → LOk g (rels.getD j [])) {r : Nat} (h : Good g lim s) (hr : r < s.t.length) (hC : RC rels s r) {s' : St} {k : Nat} (e : optTo (relS (2 * g) lim rels r) k s = some s') :
    Good g lim s' ∧ Ext g s s' ∧ ∀ j, j < k → j < rels.length → Clo s' r (rels.getD j []) :=
  optTo_inv (p := fun k x => Good g lim x ∧ Ext g s x ∧ ∀ j, j < k → j < rels.length → Clo x r (rels.getD j [])) ⟨h, Ext.refl h.rest, fun j hj => absurd hj (by omega)⟩ k (fun i x y _ ⟨hx, hx2, hx3⟩ hy => by
    have hrx : r < x.t.length := Nat.lt_of_lt_of_le hr hx2.n
    unfold relS at hy
    split at hy
    · rename_i hl
      obtain ⟨a, b⟩ := fill_good hx hrx hl (getD_all hs LOk.nil i) hy
      refine ⟨a, hx2.trans h.rest hx.rest b, fun j hj hjl => ?_⟩
      by_cases e : j = i
      · subst e
        exact fill_closed hx hrx hl (hs j hjl) hy
      · exact (hx3 j (by omega) hjl).ext hx.rest b hrx (hs j hjl)
    · rename_i hl
      cases hy
      refine ⟨hx, hx2, fun j hj hjl => ?_⟩
      have h1 := hx.rest.inv.rle r hrx
      have hC' := RC.ext h.rest hx2 hs (by omega) hC
      exact clo_rp hx.rest.inv hrx (hC' (x.rp r) (by omega) (by omega) j hjl)) s' e
theorem row_closed (hs : ∀ j, j < rels.length → LOk g (rels.getD j [])) {r : Nat} (h : Good g lim s) (hr : r < s.t.length) (hC : RC rels s r) {s' : St} (e : rowS (2 * g) lim rels r s = some s') : RC rels s' (r + 1) := by
  unfold rowS at e
  cases hx : optTo (relS (2 * g) lim rels r) rels.length s with
  | none => rw [hx] at e; cases e
  | some x =>
    rw [hx] at e
    obtain ⟨a, b, c⟩ := rel_closed hs h hr hC hx
    have hrx : r < x.t.length := Nat.lt_of_lt_of_le hr b.n
    obtain ⟨a2, b2, -, -⟩ := col_good a hrx (Nat.le_refl _) e
    have hE := b.trans h.rest a.rest b2
    intro y hy hyn i hi
    rcases Nat.lt_or_ge y r with h1 | h1
    · exact RC.ext h.rest hE hs (by omega) hC y h1 hyn i hi
    · obtain rfl : y = r := by omega
      exact (c i hi hi).ext a.rest b2 hrx (hs i hi)
theorem sub_closed (hg : 1 ≤ lim) (hs : ∀ j, j < sub.length → LOk g (sub.getD j [])) {s' : St} {k : Nat} (e : optTo (subS (2 * g) lim sub) k (startS (2 * g)) = some s') :
    Good g lim s' ∧ ∀ j, j < k → j < sub.length → Clo s' 0 (sub.getD j []) :=
  optTo_inv (p := fun k s => Good g lim s ∧ ∀ j, j < k → j < sub.length → Clo s 0 (sub.getD j [])) ⟨start_good hg, fun j hj => absurd hj (by omega)⟩ k (fun i x y _ ⟨hx, hx2⟩ hy => by
    obtain ⟨a, b⟩ := fill_good hx hx.n1 (rp_zero hx.rest hx.n1) (getD_all hs LOk.nil i) hy
    refine ⟨a, fun j hj hjl => ?_⟩
    by_cases e : j = i
    · subst e
      exact fill_closed hx hx.n1 (rp_zero hx.rest hx.n1) (hs j hjl) hy
    · exact (hx2 j (by omega) hjl).ext hx.rest b hx.n1 (hs j hjl)) s' e
theorem run_closed (hg : 1 ≤ lim) (hr : ∀ j, j < rels.length → LOk g (rels.getD j [])) (hs : ∀ j, j < sub.length → LOk g (sub.getD j [])) {s' : St} (e : runS (2 * g) lim rels sub = some s') :
    RC rels s' s'.t.length ∧ ∀ j, j < sub.length → Clo s' 0 (sub.getD j []) := by
  unfold runS at e
  cases hx : optTo (subS (2 * g) lim sub) sub.length (startS (2 * g)) with
  | none => rw [hx] at e; cases e
  | some x =>
    rw [hx] at e
    obtain ⟨hG, hsub⟩ := sub_closed hg hs hx
    obtain ⟨a, b, c⟩ := optTo_inv (p := fun k y => Good g lim y ∧ (RC rels y k ∧ Comp g y k) ∧ ∀ j, j < sub.length → Clo y 0 (sub.getD j [])) ⟨hG, ⟨fun x hx => absurd hx (by omega), fun x hx => absurd hx (by omega)⟩, fun j hj => hsub j hj hj⟩ lim (fun r x y _ ⟨hx1, ⟨hx2, hx3⟩, hx4⟩ hy => by
      unfold rowsS at hy
      split at hy
      · rename_i hlt
        obtain ⟨a, b, c⟩ := row_good hr hx1 hlt hx3 hy
        exact ⟨a, ⟨row_closed hr hx1 hlt hx2 hy, c⟩, fun j hj => (hx4 j hj).ext hx1.rest b hx1.n1 (hs j hj)⟩
      · rename_i hlt
        cases hy
        exact ⟨hx1, ⟨fun z _ hzn => hx2 z (by omega) hzn, fun z _ hzn c hcc => hx3 z (by omega) hzn c hcc⟩, hx4⟩) s' e
    exact ⟨fun z hz hzn => b.1 z (by have := a.n2; omega) hzn, c⟩
/-- an edge of the table of the living -/
theorem tab_edge (h : Rest g s) {x y c : Nat} (hx : x < s.t.length) (hc : c < 2 * g) (he : Edge s.t x c y) : num s x < (tabS s).length ∧ Edge (tabS s) (num s x) c (num s y) := by
  obtain ⟨h1, h2, h3⟩ := h.live hx hc he
  obtain ⟨k1, k2⟩ := num_lt (n := s.t.length) hx h1
  refine ⟨by rw [length_tab]; exact k1, ?_⟩
  unfold Edge
  have h4 : (liv s).getD (num s x) 0 = x := k2
  rw [at_tab k1 (by rw [h4, h.inv.len x hx]; exact hc), h4, show s.t.at x c = (y : Int) from he, Int.toNat_natCast]
theorem tab_way (h : Rest g s) : ∀ {w : W} {x y : Nat}, LOk g w → x < s.t.length → Way s.t x w y → Way (tabS s) (num s x) w (num s y) := by
  intro w
  induction w with
  | nil => intro x y _ _ e; have e : x = y := e; rw [e]; exact rfl
  | cons l w ih =>
    rintro x y hw hx ⟨z, h1, h2⟩
    have hz := h1.lt h.inv hx (col_ltL hw.cons.1)
    exact ⟨_, (tab_edge h hx (col_ltL hw.cons.1) h1).2, ih hw.cons.2 hz h2⟩
/-- the words that are closed, in the table of the living -/
theorem tab_closed (h : Rest g s) (hr : ∀ j, j < rels.length → LOk g (rels.getD j [])) (hC : RC rels s s.t.length) : ∀ i, i < (tabS s).length → ∀ j, j < rels.length → Way (tabS s) i (rels.getD j []) i := fun i hi j hj => by
  rw [length_tab] at hi
  obtain ⟨h1, h2, h3⟩ := livTo_at (s := s) s.t.length i hi
  have := hC _ h1 h1 j hj
  unfold Clo at this
  rw [h2] at this
  have h4 := tab_way h (hr j hj) h1 this
  rwa [h3] at h4
theorem tab_closed0 (h : Rest g s) (hn : 1 ≤ s.t.length) {w : W} (hw : LOk g w) (hC : Clo s 0 w) : Way (tabS s) 0 w 0 := by
  unfold Clo at hC
  rw [rp_zero h hn] at hC
  exact tab_way h hw hn hC
end
end Go.Proofs.Ct
namespace Go.Proofs.Ct
/-- complete, closed, all reached from 0 -/
structure Full (g : Nat) (t : Tb) : Prop where
  good : TGood g t
  pos : ∀ r, r < t.length → ∀ c, c < 2 * g → 0 ≤ t.at r c
  conn : ∀ x, x < t.length → Reach g t 0 x
/-- a map of tables -/
structure Hm (g : Nat) (t u : Tb) (φ : Nat → Nat) : Prop where
  lt : ∀ x, x < t.length → φ x < u.length
  edge : ∀ x c y, x < t.length → c < 2 * g → Edge t x c y → Edge u (φ x) c (φ y)
section
variable {g : Nat} {t u : Tb} {φ : Nat → Nat}
theorem Full.edge (h : Full g t) {x c : Nat} (hx : x < t.length) (hc : c < 2 * g) : ∃ y, y < t.length ∧ Edge t x c y := by
  have h1 := h.good.bd x hx c hc
  have h2 := h.pos x hx c hc
  exact ⟨(t.at x c).toNat, by omega, by unfold Edge; omega⟩
theorem TGood.elt (h : TGood g t) {x c y : Nat} (hx : x < t.length) (hc : c < 2 * g) (he : Edge t x c y) : y < t.length := by
  have h1 := h.bd x hx c hc
  unfold Edge at he
  omega
theorem TGood.eback (h : TGood g t) {x c y : Nat} (hx : x < t.length) (hc : c < 2 * g) (he : Edge t x c y) : Edge t y (flp c) x := by
  unfold Edge at he ⊢
  have h1 := h.back x hx c hc (by omega)
  rw [he, Int.toNat_natCast] at h1
  exact h1
theorem Hm.way (h : Hm g t u φ) (ht : TGood g t) : ∀ {w : W} {x y : Nat}, LOk g w → x < t.length → Way t x w y → Way u (φ x) w (φ y) := by
  intro w
  induction w with
  | nil => intro x y _ _ e; have e : x = y := e; rw [e]; exact rfl
  | cons l w ih =>
    rintro x y hw hx ⟨z, h1, h2⟩
    exact ⟨_, h.edge _ _ _ hx (col_ltL hw.cons.1) h1, ih hw.cons.2 (ht.elt hx (col_ltL hw.cons.1) h1) h2⟩
theorem row_ext {a b : List Int} {n : Nat} (ha : a.length = n) (hb : b.length = n) (h : ∀ c, c < n → a.getD c 0 = b.getD c 0) : a = b := by
  apply List.ext_getElem
  · omega
  · intro i h1 h2
    have := h i (by omega)
    simpa [List.getD_eq_getElem?_getD, h1, h2] using this
def mp (φ : Nat → Nat) (x : Int) : Int := ((φ x.toNat : Nat) : Int)
theorem Hm.row (h : Hm g t u φ) (ht : TGood g t) (hu : TGood g u) (hp : ∀ r, r < t.length → ∀ c, c < 2 * g → 0 ≤ t.at r c) {r : Nat} (hr : r < t.length) : u.row (φ r) = (t.row r).map (mp φ) := by
  refine row_ext (n := 2 * g) (hu.len _ (h.lt r hr)) (by rw [List.length_map]; exact ht.len r hr) fun c hc => ?_
  have h1 := hp r hr c hc
  have h2 := h.edge r c (t.at r c).toNat hr hc (by unfold Edge; omega)
  have h3 : (u.row (φ r)).getD c 0 = ((φ (t.at r c).toNat : Nat) : Int) := h2
  have h4 : c < (t.row r).length := by rw [ht.len r hr]; exact hc
  have h5 : ∀ (l : List Int) (f : Int → Int), c < l.length → f (l.getD c 0) = (l.map f).getD c 0 := fun l f hl => by
    simp [List.getD_eq_getElem?_getD, hl]
  rw [h3, ← h5 (t.row r) (mp φ) h4]
  rfl
theorem visit_map {n : Nat} (hinj : ∀ x y, x < n → y < n → φ x = φ y → x = y) {l : List Int} (hl : Cos n l) {s : Int} (h0 : 0 ≤ s) (hs : s < n) : visit (l.map (mp φ)) (mp φ s) = (visit l s).map (mp φ) := by
  have hm : mp φ s ∈ l.map (mp φ) ↔ s ∈ l := by
    constructor
    · intro h
      obtain ⟨x, hx, he⟩ := List.mem_map.1 h
      have hb := hl.bd x hx
      unfold mp at he
      have := hinj x.toNat s.toNat (by omega) (by omega) (by omega)
      have e : x = s := by omega
      rwa [e] at hx
    · exact fun h => List.mem_map_of_mem h
  have h1 : (mp φ s < 0) = False := by unfold mp; simp
  unfold visit
  by_cases hc : s ∈ l
  · rw [if_pos (by simp [hm.2 hc]), if_pos (by simp [hc])]
  · rw [if_neg (by simp only [Bool.or_eq_true, decide_eq_true_eq, List.contains_iff_mem, hm, h1]; simp [hc]), if_neg (by simp [hc]; omega)]
    simp
theorem visitTo_map {n : Nat} (hinj : ∀ x y, x < n → y < n → φ x = φ y → x = y) {row row' : List Int} (hr : ∀ c, c < row.length → 0 ≤ row.getD c 0 ∧ row.getD c 0 < n) (he : row' = row.map (mp φ)) {l : List Int} (hl : Cos n l) : ∀ c, c ≤ row.length → visitTo row' c (l.map (mp φ)) = (visitTo row c l).map (mp φ)
  | 0, _ => rfl
  | c + 1, hc => by
    have ih := visitTo_map hinj hr he hl c (by omega)
    have hC : Cos n (visitTo row c l) := hl.visitTo (fun c hc => (hr c hc).2) (by omega)
    show visit (visitTo row' c (l.map (mp φ))) (row'.getD c 0) = (visit (visitTo row c l) (row.getD c 0)).map (mp φ)
    have hx := hr c (by omega)
    have h5 : row'.getD c 0 = mp φ (row.getD c 0) := by
      rw [he]
      simp [List.getD_eq_getElem?_getD, show c < row.length by omega]
    rw [ih, h5]
    exact visit_map hinj hC hx.1 hx.2
theorem ordTo_map (h : Hm g t u φ) (ht : TGood g t) (hu : TGood g u) (hp : ∀ r, r < t.length → ∀ c, c < 2 * g → 0 ≤ t.at r c) (hinj : ∀ x y, x < t.length → y < t.length → φ x = φ y → x = y) {b : Nat} (hb : b < t.length) : ∀ k, ordTo u (φ b : Int) k = (ordTo t (b : Int) k).map (mp φ)
  | 0 => by simp [ordTo, mp]
  | k + 1 => by
    have ih := ordTo_map h ht hu hp hinj hb k
    have hC : Cos t.length (ordTo t (b : Int) k) := Cos.ordTo ht (by omega) (by omega) k
    rw [ordTo, ordTo, ih, List.length_map]
    by_cases hk : k < (ordTo t (b : Int) k).length
    · rw [if_pos hk, if_pos hk]
      have hx := hC.get hk
      have h5 : ((ordTo t (b : Int) k).map (mp φ)).getD k 0 = mp φ ((ordTo t (b : Int) k).getD k 0) := by simp [List.getD_eq_getElem?_getD, hk]
      rw [h5]
      generalize (ordTo t (b : Int) k).getD k 0 = x at *
      have hxn : x.toNat < t.length := by omega
      have hrow := h.row ht hu hp hxn
      have h6 : (mp φ x).toNat = φ x.toNat := by unfold mp; omega
      rw [h6, hrow, List.length_map]
      exact visitTo_map hinj (fun c hc => by rw [ht.len _ hxn] at hc; exact ⟨hp _ hxn c hc, (ht.bd _ hxn c hc).2⟩) rfl hC _ (Nat.le_refl _)
    · rw [if_neg hk, if_neg hk]
theorem idxOf_map_inj {f : Int → Int} {x : Int} : ∀ {o : List Int}, (∀ y ∈ o, f y = f x → y = x) → (o.map f).idxOf (f x) = o.idxOf x
  | [], _ => rfl
  | y :: o, h => by
    rw [List.map_cons, List.idxOf_cons, List.idxOf_cons, idxOf_map_inj fun z hz => h z (List.mem_cons_of_mem _ hz)]
    by_cases e : y = x
    · subst e; simp
    · have : f y ≠ f x := fun h' => e (h y (List.mem_cons_self ..) h')
      rw [show (y == x) = false by simpa using e, show (f y == f x) = false by simpa using this]
theorem neg_of_pos (ht : TGood g t) (hp : ∀ r, r < t.length → ∀ c, c < 2 * g → 0 ≤ t.at r c) : t.any neg = false := neg_false fun r hr c hc => hp r hr c (by rw [ht.len r hr] at hc; exact hc)
/-- a table with other numbers has the same standard table -/
theorem std_map (h : Hm g t u φ) (ht : TGood g t) (hu : TGood g u) (hp : ∀ r, r < t.length → ∀ c, c < 2 * g → 0 ≤ t.at r c) (hq : ∀ r, r < u.length → ∀ c, c < 2 * g → 0 ≤ u.at r c) (hinj : ∀ x y, x < t.length → y < t.length → φ x = φ y → x = y) (hl : t.length = u.length) {b : Nat} (hb : b < t.length) : std u (φ b : Int) = std t (b : Int) := by
  have ho : ord u (φ b : Int) = (ord t (b : Int)).map (mp φ) := by
    unfold ord
    rw [← hl]
    exact ordTo_map h ht hu hp hinj hb _
  have hC : Cos t.length (ord t (b : Int)) := Cos.ordTo ht (by omega) (by omega) _
  unfold std
  rw [ho, List.length_map, neg_of_pos ht hp, neg_of_pos hu hq, ← hl]
  by_cases hf : (ord t (b : Int)).length = t.length
  · rw [if_pos ⟨hf, rfl⟩, if_pos ⟨hf, rfl⟩, List.map_map]
    congr 1
    refine List.map_congr_left fun x hx => ?_
    have hbx := hC.bd x hx
    have hxn : x.toNat < t.length := by omega
    show (u.row (mp φ x).toNat).map _ = _
    rw [show (mp φ x).toNat = φ x.toNat by unfold mp; omega, h.row ht hu hp hxn, List.map_map]
    refine List.map_congr_left fun y hy => ?_
    show numOf _ (mp φ y) = numOf _ y
    obtain ⟨c, hc, rfl⟩ := List.mem_iff_getElem.1 hy
    have hc' : c < 2 * g := by rw [← ht.len _ hxn]; exact hc
    have e : (t.row x.toNat)[c] = t.at x.toNat c := by unfold Tb.at; simp [List.getD_eq_getElem?_getD, hc]
    rw [e]
    have h1 := hp _ hxn c hc'
    have h2 := (ht.bd _ hxn c hc').2
    unfold numOf
    congr 1
    refine idxOf_map_inj fun z hz he => ?_
    have hbz := hC.bd z hz
    unfold mp at he
    have := hinj z.toNat (t.at x.toNat c).toNat (by omega) (by omega) (by omega)
    omega
  · rw [if_neg (fun h' => hf h'.1), if_neg (fun h' => hf h'.1)]
/-- a full table's order, number by number -/
structure Num (t : Tb) (o : List Int) : Prop where
  len : o.length = t.length
  cos : Cos t.length o
theorem idxOf_get {o : List Int} (hn : o.Nodup) {j : Nat} (hj : j < o.length) : o.idxOf (o.getD j 0) = j := by
  rw [List.getD_eq_getElem?_getD, List.getElem?_eq_getElem hj]
  exact hn.idxOf_getElem j hj
theorem Num.at_ {o : List Int} (h : Num t o) {j : Nat} (hj : j < t.length) : ∃ x, x < t.length ∧ o.getD j 0 = (x : Int) ∧ o.idxOf (x : Int) = j := by
  have h1 := h.cos.get (k := j) (by rw [h.len]; exact hj)
  refine ⟨(o.getD j 0).toNat, by omega, by omega, ?_⟩
  rw [show (((o.getD j 0).toNat : Nat) : Int) = o.getD j 0 by omega]
  exact idxOf_get h.cos.nd (by rw [h.len]; exact hj)
theorem Num.of {o : List Int} (h : Num t o) {x : Nat} (hx : x < t.length) : o.idxOf (x : Int) < t.length ∧ o.getD (o.idxOf (x : Int)) 0 = (x : Int) := by
  have hm := mem_of_full h.cos h.len x hx
  have h1 := List.idxOf_lt_length_of_mem hm
  refine ⟨by rw [← h.len]; exact h1, ?_⟩
  rw [List.getD_eq_getElem?_getD, List.getElem?_eq_getElem h1]
  simp
theorem Full.num (h : Full g t) {b : Nat} (hb : b < t.length) (hr : ∀ x, x < t.length → Reach g t b x) : Num t (ord t (b : Int)) := by
  have hC : Cos t.length (ord t (b : Int)) := Cos.ordTo h.good (by omega) (by omega) t.length
  refine ⟨?_, hC⟩
  refine Nat.le_antisymm (length_le_of_nodup hC) (ge_of_all _ _ fun r hr' => ?_)
  have hin : ∀ x, Reach g t b x → x < t.length ∧ (x : Int) ∈ ord t (b : Int) := fun x hx => by
    induction hx with
    | refl => exact ⟨hb, (ordTo_mono t (b : Int) (Nat.zero_le t.length)).subset (by simp [ordTo])⟩
    | @step y z c _ hc he ih =>
      obtain ⟨h1, h2⟩ := ih
      exact ⟨h.good.elt h1 hc he, by
        obtain ⟨j, hj, he'⟩ := List.mem_iff_getElem.1 h2
        have hle := length_le_of_nodup hC
        have hjl : j < t.length := Nat.lt_of_lt_of_le hj hle
        have hlt : j < (ordTo t (b : Int) j).length := by
          rcases Nat.lt_or_ge j (ordTo t (b : Int) j).length with h3 | h3
          · exact h3
          · have := ordTo_stable t (b : Int) h3 (by omega : j ≤ t.length)
            unfold ord at hj
            rw [this] at hj
            omega
        have hget : (ordTo t (b : Int) j).getD j 0 = (y : Int) := by
          rw [← pre_get (ordTo_mono t (b : Int) (by omega : j ≤ t.length)) hlt]
          unfold ord at he' hj
          rw [List.getD_eq_getElem?_getD, List.getElem?_eq_getElem hj]
          simpa using he'
        have hstep : ordTo t (b : Int) (j + 1) = visitTo (t.row y) (t.row y).length (ordTo t (b : Int) j) := by
          rw [ordTo, if_pos hlt, hget, Int.toNat_natCast]
        have hp := h.pos y h1 c hc
        have hmem : t.at y c ∈ ordTo t (b : Int) (j + 1) := by
          rw [hstep]
          exact mem_visitTo (by rw [h.good.len y h1]; exact hc) hp _
        have := (ordTo_mono t (b : Int) (by omega : j + 1 ≤ t.length)).subset hmem
        rwa [show t.at y c = (z : Int) from he] at this⟩
  exact (hin r (hr r hr')).2
theorem Reach.hm (h : Hm g t u φ) (ht : TGood g t) {x y : Nat} (hx : x < t.length) (hr : Reach g t x y) : y < t.length ∧ Reach g u (φ x) (φ y) := by
  induction hr with
  | refl => exact ⟨hx, .refl _⟩
  | step _ hc he ih =>
    obtain ⟨h1, h2⟩ := ih
    exact ⟨ht.elt h1 hc he, .step h2 hc (h.edge _ _ _ h1 hc he)⟩
theorem Reach.trans {x y z : Nat} (h1 : Reach g t x y) (h2 : Reach g t y z) : Reach g t x z := by
  induction h2 with
  | refl => exact h1
  | step _ hc he ih => exact .step ih hc he
theorem Reach.symm (ht : TGood g t) {x y : Nat} (hx : x < t.length) (h : Reach g t x y) : y < t.length ∧ Reach g t y x := by
  induction h with
  | refl => exact ⟨hx, .refl _⟩
  | step _ hc he ih =>
    obtain ⟨h1, h2⟩ := ih
    exact ⟨ht.elt h1 hc he, (Reach.step (.refl _) (flp_lt2 hc) (ht.eback h1 hc he)).trans h2⟩
theorem Full.reach (h : Full g t) {x y : Nat} (hx : x < t.length) (hy : y < t.length) : Reach g t x y :=
  (Reach.symm h.good h.good.n1 (h.conn x hx)).2.trans (h.conn y hy)
/-- the standard table of a full table -/
def stdT (t : Tb) (b : Nat) : Tb := outTo (ord t (b : Int)) t t.length
theorem length_stdT (t : Tb) (b : Nat) : (stdT t b).length = t.length := length_outTo _ _ _
theorem row_stdT (t : Tb) (b : Nat) {j : Nat} (hj : j < t.length) : (stdT t b).row j = (t.row ((ord t (b : Int)).getD j 0).toNat).map (numOf (ord t (b : Int))) := by
  unfold stdT outTo Tb.row
  simp [List.getD_eq_getElem?_getD, hj]
structure StdOf (g : Nat) (t : Tb) (b : Nat) (u : Tb) : Prop where
  is : std t (b : Int) = some u
  len : u.length = t.length
  full : Full g u
  std : std u 0 = some u
  there : ∃ φ, Hm g t u φ ∧ φ b = 0 ∧ (∀ x y, x < t.length → y < t.length → φ x = φ y → x = y)
  back : ∃ ψ, Hm g u t ψ ∧ ψ 0 = b ∧ (∀ x y, x < u.length → y < u.length → ψ x = ψ y → x = y)
theorem Full.std_of (h : Full g t) {b : Nat} (hb : b < t.length) : StdOf g t b (stdT t b) := by
  have hN := h.num hb (fun x hx => h.reach hb hx)
  have hl := length_stdT t b
  have hrow : ∀ (j x : Nat), j < t.length → (ord t (b : Int)).getD j 0 = (x : Int) → x < t.length → ∀ c y, c < 2 * g → Edge t x c y → Edge (stdT t b) j c ((ord t (b : Int)).idxOf (y : Int)) := fun j x hj he hx c y hc hy => by
    unfold Edge Tb.at
    rw [row_stdT t b hj, he, Int.toNat_natCast]
    have h1 : c < (t.row x).length := by rw [h.good.len x hx]; exact hc
    have h2 : ((t.row x).map (numOf (ord t (b : Int)))).getD c 0 = numOf (ord t (b : Int)) (t.at x c) := by
      unfold Tb.at
      simp [List.getD_eq_getElem?_getD, h1]
    rw [h2, show t.at x c = (y : Int) from hy]
    rfl
  have hlen : ∀ r, r < t.length → ((stdT t b).row r).length = 2 * g := fun r hr => by
    obtain ⟨x, hx, h1, -⟩ := hN.at_ hr
    rw [row_stdT t b hr, List.length_map, h1, Int.toNat_natCast, h.good.len x hx]
  have hat : ∀ j, j < t.length → ∀ c, c < 2 * g → ∃ x y, x < t.length ∧ y < t.length ∧ Edge t x c y ∧ (ord t (b : Int)).idxOf (x : Int) = j ∧ Edge (stdT t b) j c ((ord t (b : Int)).idxOf (y : Int)) := fun j hj c hc => by
    obtain ⟨x, hx, h1, h2⟩ := hN.at_ hj
    obtain ⟨y, hy, he⟩ := h.edge hx hc
    exact ⟨x, y, hx, hy, he, h2, hrow j x hj h1 hx c y hc he⟩
  have hg : TGood g (stdT t b) := by
    refine ⟨h.good.g1, h.good.g16, by rw [hl]; exact h.good.n1, by rw [hl]; exact h.good.n2, fun r hr => hlen r (by omega), fun r hr c hc => ?_, fun r hr c hc _ => ?_⟩
    · rw [hl] at hr ⊢
      obtain ⟨x, y, hx, hy, he, h2, h3⟩ := hat r hr c hc
      have := (hN.of hy).1
      unfold Edge at h3
      omega
    · rw [hl] at hr
      obtain ⟨x, y, hx, hy, he, h2, h3⟩ := hat r hr c hc
      have h4 := hrow _ y (hN.of hy).1 (hN.of hy).2 hy (flp c) x (flp_lt2 hc) (h.good.eback hx hc he)
      rw [h2] at h4
      unfold Edge at h3 h4
      rw [h3, Int.toNat_natCast, h4]
  have hp : ∀ r, r < (stdT t b).length → ∀ c, c < 2 * g → 0 ≤ (stdT t b).at r c := fun r hr c hc => by
    rw [hl] at hr
    obtain ⟨x, y, hx, hy, he, h2, h3⟩ := hat r hr c hc
    unfold Edge at h3
    omega
  have hto : Hm g t (stdT t b) (fun x => (ord t (b : Int)).idxOf (x : Int)) := ⟨fun x hx => by rw [hl]; exact (hN.of hx).1, fun x c y hx hc he => hrow _ x (hN.of hx).1 (hN.of hx).2 hx c y hc he⟩
  have hinj : ∀ x y, x < t.length → y < t.length → (ord t (b : Int)).idxOf (x : Int) = (ord t (b : Int)).idxOf (y : Int) → x = y := fun x y hx hy e => by
    have h1 := (hN.of hx).2
    rw [e, (hN.of hy).2] at h1
    omega
  have hb0 : (ord t (b : Int)).idxOf (b : Int) = 0 := by
    have h1 : [(b : Int)] <+: ord t (b : Int) := ordTo_mono t (b : Int) (Nat.zero_le t.length)
    have h2 := idxOf_pre h1 (List.mem_singleton.2 rfl)
    unfold numOf at h2
    simp at h2
    exact h2
  have hstd : Ct.std t (b : Int) = some (stdT t b) := std_full h.good (by omega) (by omega) hN.len fun j hj c hc => by
    obtain ⟨x, hx, h1, -⟩ := hN.at_ hj
    rw [h1, Int.toNat_natCast] at hc ⊢
    rw [h.good.len x hx] at hc
    exact h.pos x hx c hc
  have hback : Hm g (stdT t b) t (fun j => ((ord t (b : Int)).getD j 0).toNat) := ⟨fun j hj => by
      rw [hl] at hj
      obtain ⟨x, hx, h1, -⟩ := hN.at_ hj
      rw [h1, Int.toNat_natCast]; exact hx, fun j c k hj hc he => by
      rw [hl] at hj
      obtain ⟨x, hx, h1, h2⟩ := hN.at_ hj
      obtain ⟨y, hy, h3⟩ := h.edge hx hc
      have h4 := hrow j x hj h1 hx c y hc h3
      have h5 : k = (ord t (b : Int)).idxOf (y : Int) := by unfold Edge at he h4; omega
      show Edge t ((ord t (b : Int)).getD j 0).toNat c ((ord t (b : Int)).getD k 0).toNat
      rw [h1, h5, (hN.of hy).2, Int.toNat_natCast, Int.toNat_natCast]
      exact h3⟩
  refine ⟨hstd, hl, ⟨hg, hp, fun x hx => ?_⟩, ?_, ⟨_, hto, hb0, hinj⟩, ⟨_, hback, ?_, ?_⟩⟩
  · rw [hl] at hx
    obtain ⟨y, hy, -, h2⟩ := hN.at_ hx
    have h3 := (Reach.hm hto h.good hb (h.reach hb hy)).2
    rw [hb0, h2] at h3
    exact h3
  · have := std_map hto h.good hg h.pos hp hinj hl.symm hb
    rw [hb0] at this
    rw [show ((0 : Nat) : Int) = 0 from rfl] at this
    rw [this]
    exact hstd
  · have h1 := (hN.of hb).2
    rw [hb0] at h1
    rw [h1]; rfl
  · intro x y hx hy e
    rw [hl] at hx hy
    obtain ⟨x', hx', h1, h2⟩ := hN.at_ hx
    obtain ⟨y', hy', h3, h4⟩ := hN.at_ hy
    rw [h1, h3, Int.toNat_natCast, Int.toNat_natCast] at e
    rw [← h2, ← h4, e]
end
end Go.Proofs.Ct
