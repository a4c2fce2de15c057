/- Coset enumeration, plainly: the whole procedure, and the table it ends with; The standard table, plainly: what a walk along the order shows; Coset enumeration, plainly: the table of the living, and that it can be made standard; Parents and their roots, plainly; slices.IndexFunc and slices.ContainsFunc at a list of numbers, for a predicate that only reads; coset.Check. -/
import Derived.Test.YtcfighimnkfmeaaCjCS2
import Derived.Test.YtcfighimnkfmeaaCjCS1
namespace Go.Proofs.Ct
/-- steps that may fail -/
def optTo {α : Type} (f : Nat → α → Option α) (k : Nat) (s : α) : Option α := foldTo (fun i o => o.bind (f i)) k (some s)
theorem optTo_succ {α : Type} (f : Nat → α → Option α) (k : Nat) (s : α) : optTo f (k + 1) s = (optTo f k s).bind (f k) := rfl
theorem optTo_none {α : Type} {f : Nat → α → Option α} {k : Nat} {s : α} (h : optTo f k s = none) : ∀ m, k ≤ m → optTo f m s = none
  | 0, hm => by rw [show k = 0 by omega] at h; exact h
  | m + 1, hm => by
    by_cases e : k = m + 1
    · rw [← e]; exact h
    · rw [optTo_succ, optTo_none h m (by omega)]; rfl
theorem optTo_inv {α : Type} {f : Nat → α → Option α} {p : Nat → α → Prop} {s : α} (h0 : p 0 s) : ∀ (n : Nat) (_ : ∀ k x y, k < n → p k x → f k x = some y → p (k + 1) y) (y : α), optTo f n s = some y → p n y
  | 0, _, y, h => by
    have : s = y := Option.some.inj h
    rw [← this]; exact h0
  | n + 1, hf, y, h => by
    rw [optTo_succ] at h
    cases hx : optTo f n s with
    | none => rw [hx] at h; cases h
    | some x =>
      rw [hx] at h
      exact hf n x y (Nat.lt_succ_self n) (optTo_inv h0 n (fun k x y hk => hf k x y (by omega)) x hx) h
def relS (m lim : Nat) (rels : List W) (r : Nat) (i : Nat) (s : St) : Option St := if s.rp r = r then fillS m lim s r (rels.getD i []) else some s
def colS (m lim : Nat) (r : Nat) (c : Nat) (s : St) : Option St := if s.rp r = r ∧ s.t.at r c < 0 then (if s.t.length = lim then none else some (defS m s r c)) else some s
def rowS (m lim : Nat) (rels : List W) (r : Nat) (s : St) : Option St := (optTo (relS m lim rels r) rels.length s).bind (optTo (colS m lim r) m)
def rowsS (m lim : Nat) (rels : List W) (r : Nat) (s : St) : Option St := if r < s.t.length then rowS m lim rels r s else some s
def subS (m lim : Nat) (sub : List W) (i : Nat) (s : St) : Option St := fillS m lim s 0 (sub.getD i [])
def nilS : St := ⟨[], [], [], 0, 0⟩
def startS (m : Nat) : St := addS m nilS
def runS (m lim : Nat) (rels sub : List W) : Option St := (optTo (subS m lim sub) sub.length (startS m)).bind (optTo (rowsS m lim rels) lim)
inductive Reach (g : Nat) (t : Tb) : Nat → Nat → Prop where
  | refl (x : Nat) : Reach g t x x
  | step {x y z c : Nat} : Reach g t x y → c < 2 * g → Edge t y c z → Reach g t x z
/-- a good state: at rest, with room, connected -/
structure Good (g lim : Nat) (s : St) : Prop where
  rest : Rest g s
  n1 : 1 ≤ s.t.length
  n2 : s.t.length ≤ lim
  conn : ∀ x, x < s.t.length → Reach g s.t 0 (s.rp x)
  m0 : 0 ≤ s.most
  m1 : s.most ≤ lim
section
variable {g lim : Nat} {s s0 s1 : St}
theorem Reach.ext (h0 : Rest g s0) (h : Ext g s0 s1) {x : Nat} (hx : x < s0.t.length) : ∀ {y : Nat}, Reach g s0.t x y → y < s0.t.length ∧ Reach g s1.t (s1.rp x) (s1.rp y) := by
  intro y hr
  induction hr with
  | refl => exact ⟨hx, .refl _⟩
  | step _ hc he ih =>
    obtain ⟨h1, h2⟩ := ih
    exact ⟨he.lt h0.inv h1 hc, .step h2 hc (h.edge _ _ _ h1 hc he)⟩
theorem Good.of_ext (h : Good g lim s) (hr : Rest g s1) (he : Ext g s s1) (hn : s1.t.length = s.t.length) (hm : s1.most = s.most) : Good g lim s1 := by
  refine ⟨hr, by rw [hn]; exact h.n1, by rw [hn]; exact h.n2, fun x hx => ?_, by rw [hm]; exact h.m0, by rw [hm]; exact h.m1⟩
  rw [hn] at hx
  have := (Reach.ext h.rest he h.n1 (h.conn x hx)).2
  rwa [rp_zero hr (by rw [hn]; exact h.n1), he.coarse x hx] at this
theorem Good.defn (h : Good g lim s) {r c : Nat} (hr : r < s.t.length) (hc : c < 2 * g) (hl : s.rp r = r) (h1 : s.t.at r c < 0) (hroom : s.t.length < lim) : Good g lim (defS (2 * g) s r c) ∧ Ext g s (defS (2 * g) s r c) := by
  obtain ⟨a, b, d⟩ := h.rest.defn hr hc hl h1
  have hn := length_def (s := s) (2 * g) r c
  refine ⟨⟨a, by omega, by omega, fun x hx => ?_, ?_, ?_⟩, b⟩
  · rw [hn] at hx
    have h0 := rp_zero a (by omega)
    rcases Nat.lt_or_ge x s.t.length with h2 | h2
    · have := (Reach.ext h.rest b h.n1 (h.conn x h2)).2
      rwa [h0, b.coarse x h2] at this
    · obtain rfl : x = s.t.length := by omega
      rw [rp_def_new h.rest.inv]
      have := (Reach.ext h.rest b h.n1 (h.conn r hr)).2
      rw [h0, b.coarse r hr, rp_def_old h.rest.inv _ _ _ hr, hl] at this
      exact .step this hc d
  · show 0 ≤ max s.most (s.live + 1)
    have := h.m0
    omega
  · show max s.most (s.live + 1) ≤ lim
    have := h.m1
    have := h.rest.lv
    omega
theorem fillF_good : ∀ (fuel : Nat) {s : St}, Good g lim s → lim < fuel + s.t.length → ∀ {r : Nat}, r < s.t.length → s.rp r = r → ∀ {w : W}, LOk g w → ∀ s', fillF (2 * g) lim fuel s r w = some s' → Good g lim s' ∧ Ext g s s'
  | 0, _, _, _, _, _, _, _, _, s', e => by cases e
  | fuel + 1, s, h, hf, r, hr, hl, w, hw, s', e => by
    obtain ⟨a, b⟩ := scan_rest h.rest hr hl hw
    unfold fillF at e
    cases hsc : scanS (2 * g) s r w with
    | mk s2 o =>
      rw [hsc] at e
      cases o with
      | none =>
        simp only at e
        cases e
        obtain ⟨h1, h2, h3, h4⟩ := a s' hsc
        exact ⟨h.of_ext h1 h2 h3 h4, h2⟩
      | some fc =>
        obtain ⟨f, c⟩ := fc
        simp only at e
        obtain ⟨-, h2, h3, h4, h5⟩ := b _ _ _ hsc
        split at e
        · cases e
        · rename_i hne
          obtain ⟨k1, k2⟩ := h.defn h2 h3 h4 h5 (by have := h.n2; omega)
          have hn := length_def (s := s) (2 * g) f c
          obtain ⟨k3, k4⟩ := fillF_good fuel k1 (by omega) (r := r) (by omega) (by rw [rp_def_old h.rest.inv _ _ _ hr]; exact hl) hw s' e
          exact ⟨k3, k2.trans h.rest k1.rest k4⟩
theorem fill_good (h : Good g lim s) {r : Nat} (hr : r < s.t.length) (hl : s.rp r = r) {w : W} (hw : LOk g w) {s' : St} (e : fillS (2 * g) lim s r w = some s') : Good g lim s' ∧ Ext g s s' := by
  have := h.n2
  exact fillF_good _ h (by omega) hr hl hw s' e
theorem getD_all {P : W → Prop} {l : List W} (h : ∀ j, j < l.length → P (l.getD j [])) (h0 : P []) (j : Nat) : P (l.getD j []) := by
  rcases Nat.lt_or_ge j l.length with h1 | h1
  · exact h j h1
  · rw [List.getD_eq_getElem?_getD, List.getElem?_eq_none h1]; exact h0
theorem LOk.nil : LOk g [] := fun x hx => by cases hx
/-- the cosets below k are complete -/
def Comp (g : Nat) (s : St) (k : Nat) : Prop := ∀ x, x < k → x < s.t.length → ∀ c, c < 2 * g → 0 ≤ s.t.at (s.rp x) c
theorem Comp.ext (h0 : Rest g s0) (h : Ext g s0 s1) {k : Nat} (hk : k ≤ s0.t.length) (hc : Comp g s0 k) : Comp g s1 k := fun x hx _ c hcc => by
  have hx0 : x < s0.t.length := by omega
  obtain ⟨y, hy⟩ := Int.eq_ofNat_of_zero_le (hc x hx hx0 c hcc)
  have := h.edge (s0.rp x) c y (h0.inv.rlt hx0) hcc hy
  rw [h.coarse x hx0] at this
  unfold Edge at this
  omega
theorem start_good (hg : 1 ≤ lim) : Good g lim (startS (2 * g)) := by
  have h0 : Rest g nilS := ⟨⟨fun r hr => absurd hr (by simp [nilS]), fun r hr => absurd hr (by simp [nilS]), rfl, fun r hr => absurd hr (by simp [nilS]), fun r hr => absurd hr (by simp [nilS]), fun r hr => absurd hr (by simp [nilS])⟩, fun r hr => absurd hr (by simp [nilS]), rfl⟩
  have hr := h0.add
  have hn : (startS (2 * g)).t.length = 1 := by unfold startS; rw [length_add]; rfl
  refine ⟨hr, by omega, by omega, fun x hx => ?_, ?_, ?_⟩
  · have h1 : (startS (2 * g)).rp x = 0 := by have : (startS (2 * g)).rp x ≤ x := hr.inv.rle x hx; omega
    rw [h1]; exact .refl _
  · show 0 ≤ max (0 : Int) (0 + 1); omega
  · show max (0 : Int) (0 + 1) ≤ lim; omega
theorem sub_good {sub : List W} (hg : 1 ≤ lim) (hs : ∀ j, j < sub.length → LOk g (sub.getD j [])) {s' : St} {k : Nat} (e : optTo (subS (2 * g) lim sub) k (startS (2 * g)) = some s') : Good g lim s' :=
  optTo_inv (p := fun _ s => Good g lim s) (start_good hg) k (fun i _x _y _ hx hy => (fill_good hx hx.n1 (rp_zero hx.rest hx.n1) (getD_all hs LOk.nil i) hy).1) s' e
theorem rel_good {rels : List W} (hs : ∀ j, j < rels.length → LOk g (rels.getD j [])) {r : Nat} (h : Good g lim s) (hr : r < s.t.length) {s' : St} {k : Nat} (e : optTo (relS (2 * g) lim rels r) k s = some s') : Good g lim s' ∧ Ext g s s' :=
  optTo_inv (p := fun _ x => Good g lim x ∧ Ext g s x) ⟨h, Ext.refl h.rest⟩ k (fun i x y _ ⟨hx, hx2⟩ hy => by
    unfold relS at hy
    split at hy
    · rename_i hl
      obtain ⟨a, b⟩ := fill_good hx (Nat.lt_of_lt_of_le hr hx2.n) hl (getD_all hs LOk.nil i) hy
      exact ⟨a, hx2.trans h.rest hx.rest b⟩
    · cases hy; exact ⟨hx, hx2⟩) s' e
theorem col_good {r : Nat} (h : Good g lim s) (hr : r < s.t.length) {k : Nat} (hk : k ≤ 2 * g) {s' : St} (e : optTo (colS (2 * g) lim r) k s = some s') : Good g lim s' ∧ Ext g s s' ∧ (s'.rp r = s.rp r) ∧ (s'.rp r = r → ∀ c, c < k → 0 ≤ s'.t.at r c) :=
  optTo_inv (p := fun k x => Good g lim x ∧ Ext g s x ∧ (x.rp r = s.rp r) ∧ (x.rp r = r → ∀ c, c < k → 0 ≤ x.t.at r c)) ⟨h, Ext.refl h.rest, rfl, fun _ c hc => absurd hc (by omega)⟩ k (fun c x y hc ⟨hx, hx2, hx3, hx4⟩ hy => by
    have hrx : r < x.t.length := Nat.lt_of_lt_of_le hr hx2.n
    unfold colS at hy
    split at hy
    · rename_i hl
      split at hy
      · cases hy
      · rename_i hne
        cases hy
        obtain ⟨a, b⟩ := hx.defn hrx (by omega) hl.1 hl.2 (by have := hx.n2; omega)
        have hrp := rp_def_old hx.rest.inv (2 * g) r c hrx
        refine ⟨a, hx2.trans h.rest hx.rest b, hrp.trans hx3, fun h' c' hc' => ?_⟩
        have hl' : x.rp r = r := hl.1
        rcases Nat.lt_or_ge c' c with h1 | h1
        · obtain ⟨z, hz⟩ := Int.eq_ofNat_of_zero_le (hx4 hl' c' h1)
          have := b.edge r c' z hrx (by omega) hz
          rw [h'] at this
          unfold Edge at this
          omega
        · obtain rfl : c' = c := by omega
          obtain ⟨-, -, d⟩ := hx.rest.defn hrx (by omega) hl.1 hl.2
          unfold Edge at d
          omega
    · rename_i hl
      cases hy
      refine ⟨hx, hx2, hx3, fun h' c' hc' => ?_⟩
      rcases Nat.lt_or_ge c' c with h1 | h1
      · exact hx4 h' c' h1
      · obtain rfl : c' = c := by omega
        rcases Int.lt_or_le (x.t.at r c') 0 with h2 | h2
        · exact absurd ⟨h', h2⟩ hl
        · exact h2) s' e
theorem row_good {rels : List W} (hs : ∀ j, j < rels.length → LOk g (rels.getD j [])) {r : Nat} (h : Good g lim s) (hr : r < s.t.length) (hc : Comp g s r) {s' : St} (e : rowS (2 * g) lim rels r s = some s') : Good g lim s' ∧ Ext g s s' ∧ Comp g s' (r + 1) := by
  unfold rowS at e
  cases hx : optTo (relS (2 * g) lim rels r) rels.length s with
  | none => rw [hx] at e; cases e
  | some x =>
    rw [hx] at e
    obtain ⟨a, b⟩ := rel_good hs h hr hx
    have hrx : r < x.t.length := Nat.lt_of_lt_of_le hr b.n
    obtain ⟨a2, b2, b3, b4⟩ := col_good a hrx (Nat.le_refl _) e
    have hE := b.trans h.rest a.rest b2
    have hC := Comp.ext h.rest hE (by omega) hc
    refine ⟨a2, hE, fun y hy hyn c hcc => ?_⟩
    rcases Nat.lt_or_ge y r with h1 | h1
    · exact hC y h1 hyn c hcc
    · obtain rfl : y = r := by omega
      by_cases hl : s'.rp y = y
      · rw [hl]; exact b4 hl c hcc
      · have h2 := a2.rest.inv.rle y hyn
        have h3 := hC (s'.rp y) (by omega) (a2.rest.inv.rlt hyn) c hcc
        rwa [a2.rest.inv.rid y hyn] at h3
/-- what the whole procedure ends with -/
theorem run_good {rels sub : List W} (hg : 1 ≤ lim) (hr : ∀ j, j < rels.length → LOk g (rels.getD j [])) (hs : ∀ j, j < sub.length → LOk g (sub.getD j [])) {s' : St} (e : runS (2 * g) lim rels sub = some s') : Good g lim s' ∧ Comp g s' s'.t.length := by
  unfold runS at e
  cases hx : optTo (subS (2 * g) lim sub) sub.length (startS (2 * g)) with
  | none => rw [hx] at e; cases e
  | some x =>
    rw [hx] at e
    have hG := sub_good hg hs hx
    obtain ⟨a, b⟩ := optTo_inv (p := fun k x => Good g lim x ∧ Comp g x k) ⟨hG, fun x hx => absurd hx (by omega)⟩ lim (fun r x y _ ⟨hx1, hx2⟩ hy => by
      unfold rowsS at hy
      split at hy
      · rename_i hlt
        obtain ⟨a, -, c⟩ := row_good hr hx1 hlt hx2 hy
        exact ⟨a, c⟩
      · rename_i hlt
        cases hy
        exact ⟨hx1, fun z _ hzn c hcc => hx2 z (by omega) hzn c hcc⟩) s' e
    exact ⟨a, fun z hz hzn c hcc => b z (by have := a.n2; omega) hzn c hcc⟩
end
end Go.Proofs.Ct
namespace Go.Proofs.Ct
def outTo (o : List Int) (t : Tb) (k : Nat) : Tb := (List.range k).map fun i => (t.row (o.getD i 0).toNat).map (numOf o)
theorem length_outTo (o : List Int) (t : Tb) (k : Nat) : (outTo o t k).length = k := by simp [outTo]
theorem outTo_succ (o : List Int) (t : Tb) (k : Nat) : outTo o t (k + 1) = outTo o t k ++ [(t.row (o.getD k 0).toNat).map (numOf o)] := by simp [outTo, List.range_succ]
theorem map_take_succ {f : Int → Int} {row : List Int} {j : Nat} (h : j < row.length) : (row.take (j + 1)).map f = (row.take j).map f ++ [f (row.getD j 0)] := by
  rw [List.take_succ_eq_append_getElem h, List.map_append, List.getD_eq_getElem?_getD, List.getElem?_eq_getElem h]
  rfl
theorem outTo_full {o : List Int} {t : Tb} : outTo o t o.length = o.map fun r => (t.row r.toNat).map (numOf o) := by
  apply List.ext_getElem
  · simp [outTo]
  · intro i h1 h2
    have h3 : i < o.length := by simpa using h2
    simp [outTo, List.getD_eq_getElem?_getD, h3]
theorem neg_true {t : Tb} {r c : Nat} (hr : r < t.length) (hc : c < (t.row r).length) (h : (t.row r).getD c 0 < 0) : t.any neg = true := by
  rw [List.any_eq_true]
  refine ⟨_, row_of_mem hr, ?_⟩
  unfold neg
  rw [List.any_eq_true]
  refine ⟨(t.row r).getD c 0, ?_, by simpa using h⟩
  rw [List.getD_eq_getElem?_getD, List.getElem?_eq_getElem hc]
  exact List.getElem_mem hc
theorem std_neg {t : Tb} {b : Int} (h : t.any neg = true) : std t b = none := by
  unfold std
  rw [if_neg (by simp [h])]
theorem std_short {t : Tb} {b : Int} (h : (ord t b).length ≠ t.length) : std t b = none := by
  unfold std
  rw [if_neg (fun hc => h hc.1)]
theorem neg_false {t : Tb} (h : ∀ r, r < t.length → ∀ c, c < (t.row r).length → 0 ≤ (t.row r).getD c 0) : t.any neg = false := by
  rw [List.any_eq_false]
  intro row hrow
  obtain ⟨r, hr, rfl⟩ := List.mem_iff_getElem.1 hrow
  have e : t.row r = t[r] := by unfold Tb.row; rw [List.getD_eq_getElem?_getD, List.getElem?_eq_getElem hr]; rfl
  intro hn
  unfold neg at hn
  rw [List.any_eq_true] at hn
  obtain ⟨x, hx, hx0⟩ := hn
  obtain ⟨c, hc, rfl⟩ := List.mem_iff_getElem.1 hx
  have := h r hr c (by rw [e]; exact hc)
  rw [e, List.getD_eq_getElem?_getD, List.getElem?_eq_getElem hc] at this
  simp at this hx0
  omega
theorem std_full {g : Nat} {t : Tb} (hg : TGood g t) {b : Int} (hb : 0 ≤ b) (hb' : b < t.length) (hl : (ord t b).length = t.length) (h : ∀ j, j < t.length → ∀ c, c < (t.row ((ord t b).getD j 0).toNat).length → 0 ≤ (t.row ((ord t b).getD j 0).toNat).getD c 0) :
    std t b = some (outTo (ord t b) t t.length) := by
  have hC : Cos t.length (ord t b) := Cos.ordTo hg hb hb' t.length
  have hn : t.any neg = false := neg_false fun r hr c hc => by
    have hm := mem_of_full hC hl r hr
    obtain ⟨j, hj, he⟩ := List.mem_iff_getElem.1 hm
    have h2 := h j (by omega) c
    have e : (ord t b).getD j 0 = (r : Int) := by rw [List.getD_eq_getElem?_getD, List.getElem?_eq_getElem hj]; simpa using he
    rw [e] at h2
    simp only [Int.toNat_natCast] at h2
    exact h2 hc
  unfold std
  rw [if_pos ⟨hl, hn⟩]
  rw [← outTo_full, hl]
theorem ord_end {t : Tb} {b : Int} {k : Nat} (h : (ordTo t b k).length ≤ k) (hk : k ≤ t.length) : ord t b = ordTo t b k := ordTo_stable t b h hk
theorem numOf_bd {l : List Int} {x : Int} : 0 ≤ numOf l x ∧ numOf l x ≤ l.length := by
  unfold numOf
  have := List.idxOf_le_length (a := x) (l := l)
  omega
end Go.Proofs.Ct
namespace Go.Proofs.Ct
def livTo (s : St) (n : Nat) : List Nat := (List.range n).filter fun x => decide (s.rp x = x)
def liv (s : St) : List Nat := livTo s s.t.length
/-- the number of a live coset: how many live before it -/
def num (s : St) (x : Nat) : Nat := (livTo s x).length
def tabS (s : St) : Tb := (liv s).map fun x => (s.t.row x).map fun v => (num s v.toNat : Int)
theorem livTo_succ (s : St) (n : Nat) : livTo s (n + 1) = if s.rp n = n then livTo s n ++ [n] else livTo s n := by
  unfold livTo
  rw [List.range_succ, List.filter_append]
  simp only [List.filter_cons, List.filter_nil, decide_eq_true_eq]
  split <;> simp
theorem livTo_pre (s : St) {a b : Nat} (h : a ≤ b) : livTo s a <+: livTo s b := by
  induction b with
  | zero => rw [show a = 0 by omega]; exact List.prefix_rfl
  | succ b ih =>
    by_cases e : a = b + 1
    · rw [e]; exact List.prefix_rfl
    · refine (ih (by omega)).trans ?_
      rw [livTo_succ]
      split
      · exact ⟨_, rfl⟩
      · exact List.prefix_rfl
theorem num_lt {s : St} {x n : Nat} (hx : x < n) (hl : s.rp x = x) : num s x < (livTo s n).length ∧ (livTo s n).getD (num s x) 0 = x := by
  have h1 : livTo s (x + 1) = livTo s x ++ [x] := by rw [livTo_succ, if_pos hl]
  obtain ⟨r, hr⟩ := livTo_pre s (show x + 1 ≤ n from hx)
  rw [← hr, h1]
  unfold num
  simp [List.getD_eq_getElem?_getD]
theorem livTo_at {s : St} : ∀ (n i : Nat), i < (livTo s n).length → (livTo s n).getD i 0 < n ∧ s.rp ((livTo s n).getD i 0) = (livTo s n).getD i 0 ∧ num s ((livTo s n).getD i 0) = i
  | 0, i, h => by simp [livTo] at h
  | n + 1, i, h => by
    rw [livTo_succ] at h ⊢
    by_cases hl : s.rp n = n
    · rw [if_pos hl] at h ⊢
      rcases Nat.lt_or_ge i (livTo s n).length with h1 | h1
      · have : (livTo s n ++ [n]).getD i 0 = (livTo s n).getD i 0 := by simp [List.getD_eq_getElem?_getD, List.getElem?_append_left h1]
        rw [this]
        obtain ⟨a, b, c⟩ := livTo_at n i h1
        exact ⟨by omega, b, c⟩
      · have hi : i = (livTo s n).length := by simp at h; omega
        have : (livTo s n ++ [n]).getD i 0 = n := by rw [hi]; simp [List.getD_eq_getElem?_getD]
        rw [this, hi]
        exact ⟨by omega, hl, rfl⟩
    · rw [if_neg hl] at h ⊢
      obtain ⟨a, b, c⟩ := livTo_at n i h
      exact ⟨by omega, b, c⟩
theorem livTo_le (s : St) (n : Nat) : (livTo s n).length ≤ n := by
  have := List.length_filter_le (fun x => decide (s.rp x = x)) (List.range n)
  simpa [livTo] using this
theorem length_tab (s : St) : (tabS s).length = (liv s).length := by simp [tabS]
theorem row_tab {s : St} {i : Nat} (h : i < (liv s).length) : (tabS s).row i = (s.t.row ((liv s).getD i 0)).map fun v => (num s v.toNat : Int) := by
  unfold tabS Tb.row
  simp [List.getD_eq_getElem?_getD, h]
theorem at_tab {s : St} {i c : Nat} (h : i < (liv s).length) (hc : c < (s.t.row ((liv s).getD i 0)).length) : (tabS s).at i c = (num s (s.t.at ((liv s).getD i 0) c).toNat : Int) := by
  unfold Tb.at
  rw [row_tab h]
  generalize s.t.row ((liv s).getD i 0) = row at *
  simp [List.getD_eq_getElem?_getD, hc]
/-- a table in which all can be reached has a full order -/
theorem ord_closed {g : Nat} {t : Tb} (hg : TGood g t) (hpos : ∀ r, r < t.length → ∀ c, c < 2 * g → 0 ≤ t.at r c) {x : Nat} (hx : x < t.length) (hm : (x : Int) ∈ ord t 0) {c : Nat} (hc : c < 2 * g) : t.at x c ∈ ord t 0 := by
  have hn1 := hg.n1
  have hC := Cos.ordTo hg (b := 0) (by omega) (by omega) t.length
  have hle := length_le_of_nodup hC
  obtain ⟨j, hj, he⟩ := List.mem_iff_getElem.1 hm
  have hjl : j < t.length := Nat.lt_of_lt_of_le hj hle
  have hlt : j < (ordTo t 0 j).length := by
    rcases Nat.lt_or_ge j (ordTo t 0 j).length with h | h
    · exact h
    · have := ordTo_stable t 0 h (by omega : j ≤ t.length)
      unfold ord at hj
      rw [this] at hj
      omega
  have hget : (ordTo t 0 j).getD j 0 = (x : Int) := by
    rw [← pre_get (ordTo_mono t 0 (by omega : j ≤ t.length)) hlt]
    unfold ord at he hj
    rw [List.getD_eq_getElem?_getD, List.getElem?_eq_getElem hj]
    simpa using he
  have hstep : ordTo t 0 (j + 1) = visitTo (t.row x) (t.row x).length (ordTo t 0 j) := by
    rw [ordTo, if_pos hlt, hget, Int.toNat_natCast]
  have hp := hpos x hx c hc
  have hmem : t.at x c ∈ ordTo t 0 (j + 1) := by
    rw [hstep]
    exact mem_visitTo (by rw [hg.len x hx]; exact hc) hp _
  exact (ordTo_mono t 0 (by omega : j + 1 ≤ t.length)).subset hmem
theorem ge_of_all : ∀ (n : Nat) (l : List Int), (∀ r : Nat, r < n → (r : Int) ∈ l) → n ≤ l.length
  | 0, _, _ => Nat.zero_le _
  | n + 1, l, h => by
    have hm := h n (by omega)
    have := ge_of_all n (l.erase n) fun r hr => (List.mem_erase_of_ne (by omega : (r : Int) ≠ (n : Int))).2 (h r (by omega))
    rw [List.length_erase_of_mem hm] at this
    have h1 : 0 < l.length := List.length_pos_of_mem hm
    omega
theorem std_of_reach {g : Nat} {t : Tb} (hg : TGood g t) (hpos : ∀ r, r < t.length → ∀ c, c < 2 * g → 0 ≤ t.at r c) (hr : ∀ x, x < t.length → Reach g t 0 x) : std t 0 = some (outTo (ord t 0) t t.length) := by
  have hn1 := hg.n1
  have hin : ∀ x, Reach g t 0 x → x < t.length ∧ (x : Int) ∈ ord t 0 := fun x hx => by
    induction hx with
    | refl => exact ⟨hg.n1, (ordTo_mono t 0 (Nat.zero_le t.length)).subset (by simp [ordTo])⟩
    | @step y z c _ hc he ih =>
      obtain ⟨h1, h2⟩ := ih
      have h3 := ord_closed hg hpos h1 h2 hc
      rw [show t.at y c = (z : Int) from he] at h3
      have := (hg.bd y h1 c hc).2
      rw [show t.at y c = (z : Int) from he] at this
      exact ⟨by omega, h3⟩
  have hC := Cos.ordTo hg (b := 0) (by omega) (by omega) t.length
  have hl : (ord t 0).length = t.length := Nat.le_antisymm (length_le_of_nodup hC) (ge_of_all _ _ fun r hr' => (hin r (hr r hr')).2)
  refine std_full hg (by omega) (by omega) hl fun j hj c hc => ?_
  have hget := hC.get (k := j) (by show j < (ord t 0).length; omega)
  have hrow : ((ord t 0).getD j 0).toNat < t.length := by
    have h1 : (ordTo t 0 t.length).getD j 0 = (ord t 0).getD j 0 := rfl
    omega
  exact hpos _ hrow c (by rw [hg.len _ hrow] at hc; exact hc)
section
variable {g lim : Nat} {s : St}
theorem tab_good (hg1 : 1 ≤ g) (hg16 : g ≤ 16) (hlim : lim ≤ 20000) (h : Good g lim s) (hc : Comp g s s.t.length) :
    TGood g (tabS s) ∧ (∀ r, r < (tabS s).length → ∀ c, c < 2 * g → 0 ≤ (tabS s).at r c) ∧ (∀ x, x < (tabS s).length → Reach g (tabS s) 0 x) := by
  have hI := h.rest.inv
  have h0 := rp_zero h.rest h.n1
  have hpos0 : 0 < (liv s).length := by
    have := (num_lt h.n1 h0).1
    unfold liv
    omega
  have hlen := length_tab s
  -- the row of a live coset
  have hrow : ∀ i, i < (liv s).length → (liv s).getD i 0 < s.t.length ∧ s.rp ((liv s).getD i 0) = (liv s).getD i 0 ∧ num s ((liv s).getD i 0) = i := fun i hi => livTo_at _ i hi
  have hat : ∀ i, i < (liv s).length → ∀ c, c < 2 * g → ∃ y, Edge s.t ((liv s).getD i 0) c y ∧ s.rp y = y ∧ y < s.t.length ∧ (tabS s).at i c = (num s y : Int) ∧ num s y < (liv s).length ∧ (liv s).getD (num s y) 0 = y := fun i hi c hcc => by
    obtain ⟨h1, h2, h3⟩ := hrow i hi
    obtain ⟨y, hy⟩ := Int.eq_ofNat_of_zero_le (by have := hc _ h1 h1 c hcc; rwa [h2] at this)
    obtain ⟨-, h4, h5⟩ := h.rest.live h1 hcc (show Edge s.t _ _ y from hy)
    obtain ⟨h6, h7⟩ := num_lt (n := s.t.length) h5 h4
    refine ⟨y, hy, h4, h5, ?_, h6, h7⟩
    rw [at_tab hi (by rw [hI.len _ h1]; exact hcc), hy, Int.toNat_natCast]
  refine ⟨⟨hg1, hg16, by omega, ?_, fun r hr => ?_, fun r hr c hcc => ?_, fun r hr c hcc _ => ?_⟩, fun r hr c hcc => ?_, fun x hx => ?_⟩
  · have := livTo_le s s.t.length
    have := h.n2
    unfold liv at hlen
    omega
  · rw [hlen] at hr
    rw [row_tab hr, List.length_map, hI.len _ (hrow r hr).1]
  · rw [hlen] at hr ⊢
    obtain ⟨y, -, -, -, h5, h6, -⟩ := hat r hr c hcc
    rw [h5]; omega
  · rw [hlen] at hr
    obtain ⟨y, h2, h3, h4, h5, h6, h7⟩ := hat r hr c hcc
    obtain ⟨z, k2, k3, k4, k5, k6, k7⟩ := hat (num s y) h6 (flp c) (flp_lt2 hcc)
    rw [h5, Int.toNat_natCast, k5]
    rw [h7] at k2
    have hb := h2.back hI (hrow r hr).1 hcc
    unfold Edge at hb k2
    have : z = (liv s).getD r 0 := by omega
    rw [this, (hrow r hr).2.2]
  · rw [hlen] at hr
    obtain ⟨y, -, -, -, h5, -, -⟩ := hat r hr c hcc
    rw [h5]; omega
  · rw [hlen] at hx
    obtain ⟨h1, h2, h3⟩ := hrow x hx
    have hR := h.conn _ h1
    rw [h2] at hR
    have key : ∀ y, Reach g s.t 0 y → y < s.t.length ∧ s.rp y = y ∧ Reach g (tabS s) (num s 0) (num s y) := fun y hy => by
      induction hy with
      | refl => exact ⟨h.n1, h0, .refl _⟩
      | @step y z c _ hcc he ih =>
        obtain ⟨i1, i2, i3⟩ := ih
        obtain ⟨k1, k2⟩ := num_lt (n := s.t.length) i1 i2
        obtain ⟨z', j2, j3, j4, j5, -, -⟩ := hat (num s y) k1 c hcc
        rw [show (liv s).getD (num s y) 0 = y from k2] at j2
        have : z = z' := by unfold Edge at he j2; omega
        subst this
        exact ⟨j4, j3, .step i3 hcc j5⟩
    have := (key _ hR).2.2
    rw [h3] at this
    have hz : num s 0 = 0 := rfl
    rwa [hz] at this
/-- the table that an enumeration ends with, made standard -/
theorem tab_std (hg1 : 1 ≤ g) (hg16 : g ≤ 16) (hlim : lim ≤ 20000) (h : Good g lim s) (hc : Comp g s s.t.length) : TGood g (tabS s) ∧ stdE g (tabS s) 0 = (outTo (ord (tabS s) 0) (tabS s) (tabS s).length, 0) := by
  obtain ⟨a, b, c⟩ := tab_good hg1 hg16 hlim h hc
  refine ⟨a, ?_⟩
  have hn1 := a.n1
  unfold stdE
  rw [check_of_good a, if_neg (by simp), if_neg (by omega), std_of_reach a b c]
end
end Go.Proofs.Ct
namespace Go.Proofs.Ct
/-- in the list P of parents, the root of x is r -/
inductive Root (P : List Int) : Nat → Nat → Prop where
  | here {x : Nat} (h : P.getD x 0 = (x : Int)) : Root P x x
  | up {x y r : Nat} (h : P.getD x 0 = (y : Int)) (hl : y < x) (hr : Root P y r) : Root P x r
theorem Root.le {P : List Int} {x r : Nat} (h : Root P x r) : r ≤ x := by
  induction h with
  | here => exact Nat.le_refl _
  | up _ hl _ ih => omega
theorem Root.self {P : List Int} {x r : Nat} (h : Root P x r) : P.getD r 0 = (r : Int) := by
  induction h with
  | here h => exact h
  | up _ _ _ ih => exact ih
theorem Root.parent {P : List Int} {x r : Nat} (h : Root P x r) : ∃ y : Nat, P.getD x 0 = (y : Int) ∧ y ≤ x ∧ Root P y r ∧ (y = x ↔ r = x) := by
  cases h with
  | here h => exact ⟨x, h, Nat.le_refl _, .here h, by simp⟩
  | @up _ y _ h hl hr => exact ⟨y, h, Nat.le_of_lt hl, hr, ⟨fun e => by omega, fun e => by have := hr.le; omega⟩⟩
theorem Root.unique {P : List Int} {x r r' : Nat} (h : Root P x r) (h' : Root P x r') : r = r' := by
  induction h with
  | here h =>
    cases h' with
    | here => rfl
    | up h2 hl _ => omega
  | @up x y _ h hl hr ih =>
    cases h' with
    | here h2 => omega
    | @up _ y' _ h2 hl2 hr2 =>
      obtain rfl : y = y' := by omega
      exact ih hr2
theorem getD_set_of {l : List Int} {k j : Nat} {v : Int} (hk : k < l.length) : (l.set k v).getD j 0 = if k = j then v else l.getD j 0 := by
  rw [List.getD_eq_getElem?_getD, List.getElem?_set, List.getD_eq_getElem?_getD]
  by_cases h : k = j
  · subst h; simp [hk]
  · simp [h]
/-- a way is made shorter -/
theorem Root.short {P : List Int} {c q : Nat} (hc : Root P c q) (hcl : c < P.length) {x r : Nat} (h : Root P x r) : Root (P.set c (q : Int)) x r := by
  have hq := hc.self
  have hql := hc.le
  have hget : ∀ j, (P.set c (q : Int)).getD j 0 = if c = j then (q : Int) else P.getD j 0 := fun j => getD_set_of hcl
  have hrq : Root (P.set c (q : Int)) q q := .here (by
    rw [hget]
    split
    · rfl
    · exact hq)
  induction h with
  | @here x h =>
    refine .here ?_
    rw [hget]
    split
    · rename_i e
      subst e
      have := hc.unique (.here h)
      rw [this]
    · exact h
  | @up x y r h hl hr ih =>
    by_cases e : c = x
    · subst e
      have hr' := hc.unique (.up h hl hr)
      subst hr'
      have : q ≤ y := hr.le
      exact .up (y := q) (by rw [hget, if_pos rfl]) (by omega) hrq
    · exact .up (by rw [hget, if_neg e]; exact h) hl ih
/-- two roots are joined -/
theorem Root.link {P : List Int} {a b : Nat} (ha : P.getD a 0 = (a : Int)) (hb : P.getD b 0 = (b : Int)) (hba : b < a) (hal : a < P.length) {x r : Nat} (h : Root P x r) : Root (P.set a (b : Int)) x (if r = a then b else r) := by
  have hget : ∀ j, (P.set a (b : Int)).getD j 0 = if a = j then (b : Int) else P.getD j 0 := fun j => getD_set_of hal
  have hbb : Root (P.set a (b : Int)) b b := .here (by rw [hget, if_neg (by omega)]; exact hb)
  induction h with
  | @here x h =>
    by_cases e : x = a
    · subst e
      rw [if_pos rfl]
      exact .up (y := b) (by rw [hget, if_pos rfl]) hba hbb
    · rw [if_neg e]
      exact .here (by rw [hget, if_neg (fun h => e h.symm)]; exact h)
  | @up x y r h hl hr ih =>
    have e : a ≠ x := fun e => by subst e; omega
    exact .up (by rw [hget, if_neg e]; exact h) hl ih
theorem Root.more {P : List Int} {x r : Nat} (hx : x < P.length) (h : Root P x r) (z : Int) : Root (P ++ [z]) x r := by
  have hget : ∀ j, j < P.length → (P ++ [z]).getD j 0 = P.getD j 0 := fun j hj => by simp [List.getD_eq_getElem?_getD, List.getElem?_append_left hj]
  induction h with
  | here h => exact .here (by rw [hget _ hx]; exact h)
  | up h hl hr ih => exact .up (by rw [hget _ hx]; exact h) hl (ih (by omega))
/-- the parents give the representatives -/
structure Roots (P : List Int) (s : St) : Prop where
  len : P.length = s.t.length
  root : ∀ x, x < s.t.length → Root P x (s.rp x)
theorem Roots.short {P : List Int} {s : St} (h : Roots P s) {c : Nat} (hc : c < s.t.length) : Roots (P.set c (s.rp c : Int)) s :=
  ⟨by simpa using h.len, fun x hx => (h.root c hc).short (by rw [h.len]; exact hc) (h.root x hx)⟩
theorem Roots.merge {g : Nat} {P : List Int} {s : St} (hI : Inv g s) (h : Roots P s) {a b : Nat} (ha : a < s.t.length) (hb : b < s.t.length) (hne : s.rp a ≠ s.rp b) : Roots (P.set (max (s.rp a) (s.rp b)) ((min (s.rp a) (s.rp b) : Nat) : Int)) (mergeS s a b) := by
  have ht := t_merge s a b
  have hra := (h.root a ha).self
  have hrb := (h.root b hb).self
  have hla := hI.rlt ha
  have hlb := hI.rlt hb
  refine ⟨by rw [ht]; simpa using h.len, fun x hx => ?_⟩
  rw [ht] at hx
  rw [rp_merge hI ha hb hx]
  refine Root.link ?_ ?_ (by omega) (by rw [h.len]; omega) (h.root x hx)
  · rcases Nat.le_total (s.rp a) (s.rp b) with h' | h'
    · rw [Nat.max_eq_right h']; exact hrb
    · rw [Nat.max_eq_left h']; exact hra
  · rcases Nat.le_total (s.rp a) (s.rp b) with h' | h'
    · rw [Nat.min_eq_left h']; exact hra
    · rw [Nat.min_eq_right h']; exact hrb
theorem Roots.add {g : Nat} {P : List Int} {s : St} (hI : Inv g s) (h : Roots P s) (m : Nat) : Roots (P ++ [(s.t.length : Int)]) (addS m s) := by
  refine ⟨by rw [length_add]; simp [h.len], fun x hx => ?_⟩
  rw [length_add] at hx
  rcases Nat.lt_or_ge x s.t.length with h1 | h1
  · rw [rp_add_old hI m h1]
    exact (h.root x h1).more (by rw [h.len]; exact h1) _
  · obtain rfl : x = s.t.length := by omega
    rw [rp_add_new hI m]
    exact .here (by rw [← h.len]; simp [List.getD_eq_getElem?_getD])
/-- the rows and the queue do not matter -/
theorem Roots.of_rep {P : List Int} {s s' : St} (h : Roots P s) (hn : s'.t.length = s.t.length) (hr : s'.rep = s.rep) : Roots P s' :=
  ⟨by rw [hn]; exact h.len, fun x hx => by rw [hn] at hx; have := h.root x hx; unfold St.rp at this ⊢; rw [hr]; exact this⟩
end Go.Proofs.Ct
namespace Go.Proofs
open Go.RowKit Go.Shelf
/-- function g, bound to lb, answers p at the numbers that ok allows, in w and behind draws -/
def PredW (g : Nat) (lb : Array Value) (ok : Int → Prop) (p : Int → Bool) (w : World) : Prop :=
  ∀ (x : Int) (q : Nat), ok x → Calls Try.prog g (#[.int .i64 x] ++ lb) (w.drewN q) fun e w' => e = .returned (.bool (p x)) ∧ ∃ q', w' = w.drewN q'
def IdxSaid (b : Bool) (e : Ending) : Prop := ∃ r : Int, e = .returned (.int .i64 r) ∧ decide (0 ≤ r) = b
theorem any_false_of {p : Int → Bool} {xs : List Int} (h : ∀ j, j < xs.length → p (xs.getD j 0) = false) : xs.any p = false := by
  rw [List.any_eq_false]
  intro x hx
  obtain ⟨c, hc, rfl⟩ := List.mem_iff_getElem.1 hx
  have := h c hc
  rw [List.getD_eq_getElem?_getD, List.getElem?_eq_getElem hc] at this
  simpa using this
theorem any_true_of {p : Int → Bool} {xs : List Int} {k : Nat} (hk : k < xs.length) (h : p (xs.getD k 0) = true) : xs.any p = true := by
  rw [List.any_eq_true]
  rw [List.getD_eq_getElem?_getD, List.getElem?_eq_getElem hk] at h
  exact ⟨_, List.getElem_mem hk, h⟩
section
variable (g : Nat) (lb : Array Value) (ok : Int → Prop) (p : Int → Bool) (w : World) (eg : ∀ args w, (callFunc g args).run Try.prog w = .ok (.enter g args) w) (hp : PredW g lb ok p w) (v : Value) (xs : List Int) (h : IntsAt w v xs) (hok : ∀ x ∈ xs, ok x)
include eg hp h hok
set_option maxHeartbeats 400000 in
theorem idx138_any : Calls Try.prog 138 #[v, .func (.func g) #[] lb] w fun e w' => IdxSaid (xs.any p) e ∧ ∃ q, w' = w.drewN q := by
  obtain ⟨A, c, rfl, hc1, hc2, hc⟩ := h.open_
  have HC := Lib.hid hc
  have HP := Lib.hid hp
  have HK := Lib.hid hok
  clear hc hp h hok
  go_enter Try.func138, Try.ntmps138
  go_wp2_with fail
  go_loopw [5, 8] (fun _ i wr => ∃ k : Nat, k ≤ xs.length ∧ i = .int .i64 k ∧ (∀ j, j < k → p (xs.getD j 0) = false) ∧ ∃ q, wr = w.drewN q) (fun _ i _ => xs.length - (intOf i).toNat)
  case atStart => exact ⟨0, Nat.zero_le _, rfl, fun j hj => absurd hj (by omega), 0, rfl⟩
  case round =>
    obtain ⟨k, hk, rfl, hz, q, rfl⟩ := hrel
    have HZ := Lib.hid hz
    clear hz
    by_cases hlt : k < xs.length
    · obtain ⟨b, o, rfl, hcc⟩ := HC.out (by omega)
      have hck := hcc k hlt
      have hx : ok (xs.getD k 0) := HK.out _ (by rw [List.getD_eq_getElem?_getD, List.getElem?_eq_getElem hlt]; exact List.getElem_mem hlt)
      clear hcc
      have HA := Lib.hid (any_true_of (p := p) hlt)
      generalize hxe : xs.getD k 0 = x at *
      have HXE := Lib.hid hxe
      clear hxe
      have HX := Lib.hid hx
      clear hx
      have hcall := HP.out x q HX.out
      cases hq : p x with
      | true =>
        rw [hq] at hcall
        have HQ := Lib.hid hq
        clear hq
        have HCALL := Lib.hid hcall
        clear hcall
        go_wp2_with (go_at_fn g; (refine HCALL.out.mono ?_); rintro e w' ⟨rfl, q', rfl⟩)
        go_ret
        exact ⟨⟨k, rfl, by rw [HA.out HQ.out]; simp⟩, _, rfl⟩
      | false =>
        rw [hq] at hcall
        have HQ := Lib.hid hq
        clear hq
        have HCALL := Lib.hid hcall
        clear hcall
        go_wp2_with (go_at_fn g; (refine HCALL.out.mono ?_); rintro e w' ⟨rfl, q', rfl⟩)
        go_roundw
        case rel => exact ⟨k + 1, by omega, by go_num, all_succ HZ.out (by rw [HXE.out]; exact HQ.out), _, rfl⟩
        case measure => simp [intOf]; omega
    · obtain rfl : k = xs.length := by omega
      go_wp2_with fail
      go_ret
      exact ⟨⟨-1, rfl, by rw [any_false_of HZ.out]; rfl⟩, _, rfl⟩
theorem has103_any : Calls Try.prog 103 #[v, .func (.func g) #[] lb] w fun e w' => e = .returned (.bool (xs.any p)) ∧ ∃ q, w' = w.drewN q := by
  have hcon := Lib.hid (idx138_any g lb ok p w eg hp v xs h hok)
  clear hp h hok
  go_enter Try.func103, Try.ntmps103
  go_wp2_with (go_at_call 138; (refine hcon.out.mono ?_); rintro e w' ⟨⟨r, rfl, hr⟩, q, rfl⟩; have HR := Lib.hid hr; clear hr)
  go_ret
  exact ⟨ret_bool HR.out, _, rfl⟩
set_option maxHeartbeats 400000 in
theorem idx117_any : Calls Try.prog 117 #[v, .func (.func g) #[] lb] w fun e w' => IdxSaid (xs.any p) e ∧ ∃ q, w' = w.drewN q := by
  obtain ⟨A, c, rfl, hc1, hc2, hc⟩ := h.open_
  have HC := Lib.hid hc
  have HP := Lib.hid hp
  have HK := Lib.hid hok
  clear hc hp h hok
  go_enter Try.func117, Try.ntmps117
  go_wp2_with fail
  go_loopw [5, 8] (fun _ i wr => ∃ k : Nat, k ≤ xs.length ∧ i = .int .i64 k ∧ (∀ j, j < k → p (xs.getD j 0) = false) ∧ ∃ q, wr = w.drewN q) (fun _ i _ => xs.length - (intOf i).toNat)
  case atStart => exact ⟨0, Nat.zero_le _, rfl, fun j hj => absurd hj (by omega), 0, rfl⟩
  case round =>
    obtain ⟨k, hk, rfl, hz, q, rfl⟩ := hrel
    have HZ := Lib.hid hz
    clear hz
    by_cases hlt : k < xs.length
    · obtain ⟨b, o, rfl, hcc⟩ := HC.out (by omega)
      have hck := hcc k hlt
      have hx : ok (xs.getD k 0) := HK.out _ (by rw [List.getD_eq_getElem?_getD, List.getElem?_eq_getElem hlt]; exact List.getElem_mem hlt)
      clear hcc
      have HA := Lib.hid (any_true_of (p := p) hlt)
      generalize hxe : xs.getD k 0 = x at *
      have HXE := Lib.hid hxe
      clear hxe
      have HX := Lib.hid hx
      clear hx
      have hcall := HP.out x q HX.out
      cases hq : p x with
      | true =>
        rw [hq] at hcall
        have HQ := Lib.hid hq
        clear hq
        have HCALL := Lib.hid hcall
        clear hcall
        go_wp2_with (go_at_fn g; (refine HCALL.out.mono ?_); rintro e w' ⟨rfl, q', rfl⟩)
        go_ret
        exact ⟨⟨k, rfl, by rw [HA.out HQ.out]; simp⟩, _, rfl⟩
      | false =>
        rw [hq] at hcall
        have HQ := Lib.hid hq
        clear hq
        have HCALL := Lib.hid hcall
        clear hcall
        go_wp2_with (go_at_fn g; (refine HCALL.out.mono ?_); rintro e w' ⟨rfl, q', rfl⟩)
        go_roundw
        case rel => exact ⟨k + 1, by omega, by go_num, all_succ HZ.out (by rw [HXE.out]; exact HQ.out), _, rfl⟩
        case measure => simp [intOf]; omega
    · obtain rfl : k = xs.length := by omega
      go_wp2_with fail
      go_ret
      exact ⟨⟨-1, rfl, by rw [any_false_of HZ.out]; rfl⟩, _, rfl⟩
theorem has74_any : Calls Try.prog 74 #[v, .func (.func g) #[] lb] w fun e w' => e = .returned (.bool (xs.any p)) ∧ ∃ q, w' = w.drewN q := by
  have hcon := Lib.hid (idx117_any g lb ok p w eg hp v xs h hok)
  clear hp h hok
  go_enter Try.func74, Try.ntmps74
  go_wp2_with (go_at_call 117; (refine hcon.out.mono ?_); rintro e w' ⟨⟨r, rfl, hr⟩, q, rfl⟩; have HR := Lib.hid hr; clear hr)
  go_ret
  exact ⟨ret_bool HR.out, _, rfl⟩
end
end Go.Proofs
namespace Go.Proofs
open Go.RowKit Go.Shelf Go.Proofs.Ct
theorem pred104 (A : Option Addr) (n c B : Nat) (w : World) (_hn : n ≤ 9223372036854775807) (hc : w.cell? ⟨B, 0, none⟩ = some (.slice A n c)) :
    PredW 104 #[.pointer (some ⟨B, 0, none⟩)] (fun x => -9223372036854775808 ≤ x ∧ x ≤ 9223372036854775807) (outB n) w := fun x q hx => by
  have hcq : (w.drewN q).cell? ⟨B, 0, none⟩ = some (.slice A n c) := hc
  show Calls Try.prog 104 #[.int .i64 x, .pointer (some ⟨B, 0, none⟩)] (w.drewN q) _
  have h0 : outB n x = (decide (x < -1) || decide ((n : Int) ≤ x)) := rfl
  have H0 := Lib.hid h0
  clear h0
  generalize hW : w.drewN q = W at *
  have HW := Lib.hid hW
  clear hW
  by_cases h1 : x < -1
  · go_enter Try.func104, Try.ntmps104
    go_wp2_with fail
    go_ret
    exact ⟨ret_bool (by rw [H0.out]; simp [h1]), q, HW.out.symm⟩
  · by_cases h2 : (n : Int) ≤ x
    · go_enter Try.func104, Try.ntmps104
      go_wp2_with fail
      go_ret
      exact ⟨ret_bool (by rw [H0.out]; simp [h2]), q, HW.out.symm⟩
    · go_enter Try.func104, Try.ntmps104
      go_wp2_with fail
      go_ret
      exact ⟨ret_bool (by rw [H0.out]; simp [h1, h2]), q, HW.out.symm⟩
theorem eg104 : ∀ args w, (callFunc 104 args).run Try.prog w = .ok (.enter 104 args) w := enters_of Try.func104 (by kernel_rfl) rfl
theorem check_row {g : Int} {t : Tb} (hw : wide g t = false) {k : Nat} (hk : k < t.length) (hz : ∀ j, j < k → rowBad g t.length (t.row j) = false) (hb : rowBad g t.length (t.row k) = true) : check g t = (if ((t.row k).length : Int) ≠ 2 * g then 3 else 2, (k : Int)) := by
  unfold check
  rw [hw, first_some hk hb hz]
  rfl
theorem check_sum {g : Int} {t : Tb} (hw : wide g t = false) (hr : ∀ j, j < t.length → rowBad g t.length (t.row j) = false) {k : Nat} (hk : k < t.length) (hz : ∀ j, j < k → sumBad t (2 * g).toNat j = false) (hb : sumBad t (2 * g).toNat k = true) : check g t = (14, (k : Int)) := by
  unfold check
  rw [hw, first_none hr, first_some hk hb hz]
  rfl
theorem check_fine {g : Int} {t : Tb} (hw : wide g t = false) (hr : ∀ j, j < t.length → rowBad g t.length (t.row j) = false) (hz : ∀ j, j < t.length → sumBad t (2 * g).toNat j = false) : check g t = (0, -1) := by
  unfold check
  rw [hw, first_none hr, first_none hz]
  rfl
theorem rowBad_len {g n : Int} {row : List Int} (h : (row.length : Int) ≠ 2 * g) : rowBad g n row = true := by
  unfold rowBad
  rw [Bool.or_eq_true]
  exact .inl (by simpa using h)
theorem rowBad_of {g n : Int} {row : List Int} (h : (row.length : Int) = 2 * g) : rowBad g n row = rowOut n row := by
  unfold rowBad
  rw [show decide ((row.length : Int) ≠ 2 * g) = false by simpa using h]
  rfl
theorem flp_eq : ∀ c : Nat, c < 40 → bits .xor .i64 (c : Int) 1 = ((flp c : Nat) : Int) := by decide +kernel
theorem flp_lt {c m : Nat} (h : c < 2 * m) : flp c < 2 * m := by
  unfold flp
  split <;> omega
def CheckPost (g : Int) (t : Tb) (w : World) (e : Ending) (w' : World) : Prop := e = .returned (.tuple #[.int .i64 (check g t).1, .int .i64 (check g t).2]) ∧ Below w.heap.size w w'
set_option maxRecDepth 100000 in
set_option maxHeartbeats 1000000 in
theorem check43_any (w : World) (v : Value) (g : Int) (t : Tb) (ht : Tab w v t) : Calls Try.prog 43 #[.int .i64 g, v] w (CheckPost g t w) := by
  obtain ⟨A, c, rfl, hc1, hc2, hc⟩ := ht.open_
  have HC := Lib.hid hc
  clear hc ht
  have HCK : Hid (check g t = if wide g t then ((2 : Int), (-1 : Int)) else
    match first (fun r => rowBad g t.length (t.row r)) t.length with
    | some r => (if ((t.row r).length : Int) ≠ 2 * g then 3 else 2, (r : Int))
    | none => match first (sumBad t (2 * g).toNat) t.length with
      | some r => (14, (r : Int))
      | none => (0, -1)) := Lib.hid rfl
  by_cases hw : wide g t = true
  · have HCW : Hid (check g t = (2, -1)) := Lib.hid (by rw [HCK.out, if_pos hw])
    have hw' : g < 1 ∨ 16 < g ∨ t.length < 1 ∨ 20000 < t.length := by
      unfold wide at hw
      simp only [Bool.or_eq_true, decide_eq_true_eq] at hw
      omega
    clear hw
    by_cases h1 : g < 1
    · go_enter Try.func43, Try.ntmps43
      go_wp2_with fail
      go_ret2
      exact ⟨ret_pair (by rw [HCW.out]) (by rw [HCW.out]), (Below.refl _ _).alloc (Nat.le_refl _) _⟩
    · by_cases h2 : 16 < g
      · go_enter Try.func43, Try.ntmps43
        go_wp2_with fail
        go_ret2
        exact ⟨ret_pair (by rw [HCW.out]) (by rw [HCW.out]), (Below.refl _ _).alloc (Nat.le_refl _) _⟩
      · by_cases h3 : t.length < 1
        · have d3 : ((t.length : Int) < 1) := by omega
          go_enter Try.func43, Try.ntmps43
          go_wp2_with fail
          go_ret2
          exact ⟨ret_pair (by rw [HCW.out]) (by rw [HCW.out]), (Below.refl _ _).alloc (Nat.le_refl _) _⟩
        · have d3 : ¬ ((t.length : Int) < 1) := by omega
          have d4 : (20000 < (t.length : Int)) := by omega
          go_enter Try.func43, Try.ntmps43
          go_wp2_with fail
          go_ret2
          exact ⟨ret_pair (by rw [HCW.out]) (by rw [HCW.out]), (Below.refl _ _).alloc (Nat.le_refl _) _⟩
  · have hw' : 1 ≤ g ∧ g ≤ 16 ∧ 1 ≤ t.length ∧ t.length ≤ 20000 := by
      unfold wide at hw
      simp only [Bool.or_eq_true, decide_eq_true_eq] at hw
      omega
    obtain ⟨g1, g2, n1, n2⟩ := hw'
    have HNW := Lib.hid (Bool.eq_false_iff.2 hw)
    clear hw HCK
    have n3 : (1 : Int) ≤ (t.length : Int) := by omega
    have n4 : (t.length : Int) ≤ 20000 := by omega
    obtain ⟨b, off, rfl, hcell⟩ := HC.out (by omega)
    have HCELL := Lib.hid hcell
    clear hcell HC
    go_enter Try.func43, Try.ntmps43
    go_wp2_with fail
    go_loopw [30] (fun i wr => ∃ k : Nat, k ≤ t.length ∧ i = .int .i64 k ∧ (∀ j, j < k → rowBad g t.length (t.row j) = false) ∧ wr.cell? ⟨w.heap.size, 0, none⟩ = some (.slice (some ⟨b, off, none⟩) t.length c) ∧ Below w.heap.size w wr) (fun i _ => t.length - (intOf i).toNat)
    case atStart => exact ⟨0, Nat.zero_le _, rfl, fun j hj => absurd hj (by omega), by simp, (Below.refl _ _).alloc (Nat.le_refl _) _⟩
    case round =>
      obtain ⟨k, hk, rfl, hz, hbox, hbel⟩ := hrel
      have HZ := Lib.hid hz
      have HB := Lib.hid hbel
      clear hz hbel
      have hk0 : (0 : Int) ≤ (k : Int) := Int.natCast_nonneg _
      by_cases hlt : k < t.length
      · obtain ⟨u, hu, hI⟩ := HCELL.out k hlt
        have hu' := (HB.out.cell (p := ⟨b, off + k, none⟩) (World.block_lt_of_cell? w _ hu)).trans hu
        have hI' := hI.below HB.out
        clear hu hI
        have hI2 : IntsAt wr u (t.row k) := hI'
        clear hI'
        obtain ⟨A2, c2, rfl, hd1, hd2, hd⟩ := hI2.open_
        clear hd
        by_cases hlen : ((t.row k).length : Int) = 2 * g
        · have d1 : (((t.row k).length : Int) != 2 * g) = false := by simpa using hlen
          have HRB := Lib.hid (rowBad_of (n := (t.length : Int)) hlen)
          have HP := Lib.hid (has103_any 104 _ _ _ wr eg104 (pred104 _ t.length c w.heap.size wr (by omega) hbox) _ (t.row k) hI2 hI2.2)
          have HC3 : Hid (rowOut t.length (t.row k) = true → check g t = (2, (k : Int))) := Lib.hid fun h => by
            rw [check_row HNW.out hlt HZ.out (by rw [HRB.out]; exact h), if_neg (by simpa using hlen)]
          clear hI2
          have HL := Lib.hid hlen
          clear hlen
          have HOB : Hid ((t.row k).any (outB t.length) = rowOut t.length (t.row k)) := Lib.hid rfl
          rw [HOB.out] at HP
          cases hro : rowOut t.length (t.row k) with
          | true =>
            rw [hro] at HP
            have HRO := Lib.hid hro
            clear hro
            have HBOX := Lib.hid hbox
            clear hbox
            go_wp2_with (go_at_call 103; (refine HP.out.mono ?_); rintro e w' ⟨rfl, q, rfl⟩)
            go_ret2
            exact ⟨ret_pair (by rw [HC3.out HRO.out]) (by rw [HC3.out HRO.out]), below_drewN HB.out q⟩
          | false =>
            rw [hro] at HP
            have HRO := Lib.hid hro
            clear hro
            go_wp2_with (go_at_call 103; (refine HP.out.mono ?_); rintro e w' ⟨rfl, q, rfl⟩)
            go_roundw
            case rel => exact ⟨k + 1, by omega, by go_num, all_succ HZ.out (by rw [HRB.out]; exact HRO.out), hbox, below_drewN HB.out q⟩
            case measure => simp [intOf]; omega
        · have d1 : (((t.row k).length : Int) != 2 * g) = true := by simpa using hlen
          have HC2 : Hid (check g t = (3, (k : Int))) := Lib.hid (by rw [check_row HNW.out hlt HZ.out (rowBad_len hlen), if_pos hlen])
          have HL := Lib.hid hlen
          clear hlen
          go_wp2_with fail
          go_ret2
          exact ⟨ret_pair (by rw [HC2.out]) (by rw [HC2.out]), HB.out⟩
      · obtain rfl : k = t.length := by omega
        have HR := HZ
        have HLEN : Hid (∀ r, r < t.length → ((t.row r).length : Int) = 2 * g ∧ ∀ c, c < (t.row r).length → -1 ≤ t.at r c ∧ t.at r c < t.length) := Lib.hid fun r hr => by
          have h1 := HR.out r hr
          unfold rowBad at h1
          rw [Bool.or_eq_false_iff] at h1
          exact ⟨by simpa using h1.1, rowOut_false h1.2⟩
        clear HZ
        go_wp2_with fail
        go_loopw [48] (fun i wr => ∃ k : Nat, k ≤ t.length ∧ i = .int .i64 k ∧ (∀ j, j < k → sumBad t (2 * g).toNat j = false) ∧ wr.cell? ⟨w.heap.size, 0, none⟩ = some (.slice (some ⟨b, off, none⟩) t.length c) ∧ Below w.heap.size w wr) (fun i _ => t.length - (intOf i).toNat)
        case atStart => exact ⟨0, Nat.zero_le _, rfl, fun j hj => absurd hj (by omega), hbox, HB.out⟩
        case round =>
          clear HB hbox
          rename World => w0
          obtain ⟨k, hk, rfl, hz, hbox, hbel⟩ := hrel
          have HZ := Lib.hid hz
          have HB := Lib.hid hbel
          clear hz hbel
          have hk0 : (0 : Int) ≤ (k : Int) := Int.natCast_nonneg _
          by_cases hlt : k < t.length
          · obtain ⟨u, hu, hI⟩ := HCELL.out k hlt
            have hu' := (HB.out.cell (p := ⟨b, off + k, none⟩) (World.block_lt_of_cell? w _ hu)).trans hu
            clear hu
            have hI2 : IntsAt w u (t.row k) := hI
            clear hI
            obtain ⟨A2, c2, rfl, hd1, hd2, hd⟩ := hI2.open_
            have hl2 := (HLEN.out k hlt).1
            have HD := Lib.hid hd
            clear hd
            obtain ⟨b2, o2, rfl, hd'⟩ := HD.out (by omega)
            have HD2 := Lib.hid hd'
            clear hd' HD hI2
            have HL2 := Lib.hid hl2
            have hl3 : ((t.row k).length : Int) ≤ 32 := by omega
            clear hl2
            go_wp2_with fail
            go_loopw [55] (fun i wr => ∃ c0 : Nat, c0 ≤ (t.row k).length ∧ i = .int .i64 c0 ∧ (∀ j, j < c0 → sumAt t k j = false) ∧ wr.cell? ⟨w.heap.size, 0, none⟩ = some (.slice (some ⟨b, off, none⟩) t.length c) ∧ Below w.heap.size w wr) (fun i _ => (t.row k).length - (intOf i).toNat)
            case atStart => exact ⟨0, Nat.zero_le _, rfl, fun j hj => absurd hj (by omega), hbox, HB.out⟩
            case round =>
              clear HB hbox hu'
              rename World => w1
              obtain ⟨j, hj, rfl, hzj, hbox, hbel⟩ := hrel
              have HZJ := Lib.hid hzj
              have HB := Lib.hid hbel
              clear hzj hbel
              have hj0 : (0 : Int) ≤ (j : Int) := Int.natCast_nonneg _
              by_cases hjl : j < (t.row k).length
              · have hx := HD2.out j hjl
                have hx' := (HB.out.cell (p := ⟨b2, o2 + j, none⟩) (World.block_lt_of_cell? w _ hx)).trans hx
                clear hx
                have hbd := (HLEN.out k hlt).2 j hjl
                have HSA : Hid (sumAt t k j = (decide (0 ≤ t.at k j) && decide (t.at (t.at k j).toNat (flp j) ≠ (k : Int)))) := Lib.hid rfl
                have hat : (t.row k).getD j 0 = t.at k j := rfl
                rw [hat] at hx'
                clear hat
                generalize t.at k j = s at *
                by_cases hs : s < 0
                · have HS : Hid (sumAt t k j = false) := Lib.hid (by rw [HSA.out]; simp; omega)
                  go_wp2_with fail
                  go_roundw
                  case rel => exact ⟨j + 1, by omega, by go_num, all_succ HZJ.out HS.out, hbox, HB.out⟩
                  case measure => simp [intOf]; omega
                · obtain ⟨s', rfl⟩ := Int.eq_ofNat_of_zero_le (by omega : 0 ≤ s)
                  have hs' : s' < t.length := by omega
                  obtain ⟨u3, hu3, hI3⟩ := HCELL.out s' hs'
                  have hu3' := (HB.out.cell (p := ⟨b, off + s', none⟩) (World.block_lt_of_cell? w _ hu3)).trans hu3
                  clear hu3
                  have hI4 : IntsAt w u3 (t.row s') := hI3
                  clear hI3
                  obtain ⟨A3, c3, rfl, he1, he2, he⟩ := hI4.open_
                  have hl4 := (HLEN.out s' hs').1
                  have HE := Lib.hid he
                  clear he
                  obtain ⟨b3, o3, rfl, he'⟩ := HE.out (by omega)
                  have hfl : flp j < (t.row s').length := by
                    have := flp_lt (c := j) (m := g.toNat) (by have := HL2.out; omega)
                    omega
                  have hy := he' (flp j) hfl
                  have hy' := (HB.out.cell (p := ⟨b3, o3 + flp j, none⟩) (World.block_lt_of_cell? w _ hy)).trans hy
                  have hfe := flp_eq j (by omega)
                  have hf0 : (0 : Int) ≤ ((flp j : Nat) : Int) := Int.natCast_nonneg _
                  have hf1 : ((flp j : Nat) : Int) < ((t.row s').length : Int) := by omega
                  clear hy he' HE hI4
                  have hat2 : (t.row s').getD (flp j) 0 = t.at s' (flp j) := rfl
                  rw [hat2] at hy'
                  have HS2 : Hid (sumAt t k j = decide (t.at s' (flp j) ≠ (k : Int))) := Lib.hid (by rw [HSA.out]; simp)
                  clear hat2
                  generalize t.at s' (flp j) = x at *
                  have hs0 : (0 : Int) ≤ (s' : Int) := Int.natCast_nonneg _
                  have hs1 : (s' : Int) < (t.length : Int) := by omega
                  have HL4 := Lib.hid hl4
                  clear hl4
                  by_cases hxk : x = (k : Int)
                  · have d5 : (x != (k : Int)) = false := by simpa using hxk
                    have HXK : Hid (sumAt t k j = false) := Lib.hid (by rw [HS2.out]; simpa using hxk)
                    clear hxk
                    go_wp2_with fail
                    go_roundw
                    case rel => exact ⟨j + 1, by omega, by go_num, all_succ HZJ.out HXK.out, hbox, HB.out⟩
                    case measure => simp [intOf]; omega
                  · have d5 : (x != (k : Int)) = true := by simpa using hxk
                    have HXK : Hid (sumAt t k j = true) := Lib.hid (by rw [HS2.out]; simpa using hxk)
                    have HC4 : Hid (check g t = (14, (k : Int))) := Lib.hid (check_sum HNW.out HR.out hlt HZ.out (sumBad_true (by have := HL2.out; omega) HXK.out))
                    clear hxk
                    go_wp2_with fail
                    go_ret2
                    exact ⟨ret_pair (by rw [HC4.out]) (by rw [HC4.out]), HB.out⟩
              · obtain rfl : j = (t.row k).length := by omega
                go_wp2_with fail
                go_roundw
                case rel => exact ⟨k + 1, by omega, by go_num, all_succ HZ.out (sumBad_false fun c0 hc0 => HZJ.out c0 (by have := HL2.out; omega)), hbox, HB.out⟩
                case measure => simp [intOf]; omega
          · obtain rfl : k = t.length := by omega
            go_wp2_with fail
            go_ret2
            exact ⟨ret_pair (by rw [check_fine HNW.out HR.out HZ.out]) (by rw [check_fine HNW.out HR.out HZ.out]), HB.out⟩
end Go.Proofs
