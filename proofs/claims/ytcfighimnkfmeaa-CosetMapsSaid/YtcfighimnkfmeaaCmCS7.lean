/- Coset enumeration, plainly: the whole procedure, and the table it ends with; Coset enumeration, plainly: the table of the living, and that it can be made standard; Parents and their roots, plainly; The state of an enumeration in memory: rows that are written, parents, a queue; Holds: the plain law; the closures of coset.Holds. -/
import Derived.Test.YtcfighimnkfmeaaCmCS6
import Derived.Test.YtcfighimnkfmeaaCmCS2
import Derived.Test.YtcfighimnkfmeaaCmCS3
import Derived.Test.YtcfighimnkfmeaaCmCS5
namespace Go.Proofs.Ct
/-- steps that may fail -/
def optTo {α : Type} (f : Nat → α → Option α) (k : Nat) (s : α) : Option α := foldTo (fun i o => o.bind (f i)) k (some s)
theorem optTo_succ {α : Type} (f : Nat → α → Option α) (k : Nat) (s : α) : optTo f (k + 1) s = (optTo f k s).bind (f k) := rfl
theorem optTo_none {α : Type} {f : Nat → α → Option α} {k : Nat} {s : α} (h : optTo f k s = none) : ∀ m, k ≤ m → optTo f m s = none
  | 0, hm => by rw [show k = 0 by omega] at h; exact h
  | m + 1, hm => by
    by_cases e : k = m + 1
    · rw [← e]; exact h
    · rw [optTo_succ, optTo_none h m (by omega)]; rfl
theorem optTo_inv {α : Type} {f : Nat → α → Option α} {p : Nat → α → Prop} {s : α} (h0 : p 0 s) : ∀ (n : Nat) (_ : ∀ k x y, k < n → p k x → f k x = some y → p (k + 1) y) (y : α), optTo f n s = some y → p n y
  | 0, _, y, h => by
    have : s = y := Option.some.inj h
    rw [← this]; exact h0
  | n + 1, hf, y, h => by
    rw [optTo_succ] at h
    cases hx : optTo f n s with
    | none => rw [hx] at h; cases h
    | some x =>
      rw [hx] at h
      exact hf n x y (Nat.lt_succ_self n) (optTo_inv h0 n (fun k x y hk => hf k x y (by omega)) x hx) h
def relS (m lim : Nat) (rels : List W) (r : Nat) (i : Nat) (s : St) : Option St := if s.rp r = r then fillS m lim s r (rels.getD i []) else some s
def colS (m lim : Nat) (r : Nat) (c : Nat) (s : St) : Option St := if s.rp r = r ∧ s.t.at r c < 0 then (if s.t.length = lim then none else some (defS m s r c)) else some s
def rowS (m lim : Nat) (rels : List W) (r : Nat) (s : St) : Option St := (optTo (relS m lim rels r) rels.length s).bind (optTo (colS m lim r) m)
def rowsS (m lim : Nat) (rels : List W) (r : Nat) (s : St) : Option St := if r < s.t.length then rowS m lim rels r s else some s
def subS (m lim : Nat) (sub : List W) (i : Nat) (s : St) : Option St := fillS m lim s 0 (sub.getD i [])
def nilS : St := ⟨[], [], [], 0, 0⟩
def startS (m : Nat) : St := addS m nilS
def runS (m lim : Nat) (rels sub : List W) : Option St := (optTo (subS m lim sub) sub.length (startS m)).bind (optTo (rowsS m lim rels) lim)
inductive Reach (g : Nat) (t : Tb) : Nat → Nat → Prop where
  | refl (x : Nat) : Reach g t x x
  | step {x y z c : Nat} : Reach g t x y → c < 2 * g → Edge t y c z → Reach g t x z
/-- a good state: at rest, with room, connected -/
structure Good (g lim : Nat) (s : St) : Prop where
  rest : Rest g s
  n1 : 1 ≤ s.t.length
  n2 : s.t.length ≤ lim
  conn : ∀ x, x < s.t.length → Reach g s.t 0 (s.rp x)
  m0 : 0 ≤ s.most
  m1 : s.most ≤ lim
section
variable {g lim : Nat} {s s0 s1 : St}
theorem Reach.ext (h0 : Rest g s0) (h : Ext g s0 s1) {x : Nat} (hx : x < s0.t.length) : ∀ {y : Nat}, Reach g s0.t x y → y < s0.t.length ∧ Reach g s1.t (s1.rp x) (s1.rp y) := by
  intro y hr
  induction hr with
  | refl => exact ⟨hx, .refl _⟩
  | step _ hc he ih =>
    obtain ⟨h1, h2⟩ := ih
    exact ⟨he.lt h0.inv h1 hc, .step h2 hc (h.edge _ _ _ h1 hc he)⟩
theorem Good.of_ext (h : Good g lim s) (hr : Rest g s1) (he : Ext g s s1) (hn : s1.t.length = s.t.length) (hm : s1.most = s.most) : Good g lim s1 := by
  refine ⟨hr, by rw [hn]; exact h.n1, by rw [hn]; exact h.n2, fun x hx => ?_, by rw [hm]; exact h.m0, by rw [hm]; exact h.m1⟩
  rw [hn] at hx
  have := (Reach.ext h.rest he h.n1 (h.conn x hx)).2
  rwa [rp_zero hr (by rw [hn]; exact h.n1), he.coarse x hx] at this
theorem Good.defn (h : Good g lim s) {r c : Nat} (hr : r < s.t.length) (hc : c < 2 * g) (hl : s.rp r = r) (h1 : s.t.at r c < 0) (hroom : s.t.length < lim) : Good g lim (defS (2 * g) s r c) ∧ Ext g s (defS (2 * g) s r c) := by
  obtain ⟨a, b, d⟩ := h.rest.defn hr hc hl h1
  have hn := length_def (s := s) (2 * g) r c
  refine ⟨⟨a, by omega, by omega, fun x hx => ?_, ?_, ?_⟩, b⟩
  · rw [hn] at hx
    have h0 := rp_zero a (by omega)
    rcases Nat.lt_or_ge x s.t.length with h2 | h2
    · have := (Reach.ext h.rest b h.n1 (h.conn x h2)).2
      rwa [h0, b.coarse x h2] at this
    · obtain rfl : x = s.t.length := by omega
      rw [rp_def_new h.rest.inv]
      have := (Reach.ext h.rest b h.n1 (h.conn r hr)).2
      rw [h0, b.coarse r hr, rp_def_old h.rest.inv _ _ _ hr, hl] at this
      exact .step this hc d
  · show 0 ≤ max s.most (s.live + 1)
    have := h.m0
    omega
  · show max s.most (s.live + 1) ≤ lim
    have := h.m1
    have := h.rest.lv
    omega
theorem fillF_good : ∀ (fuel : Nat) {s : St}, Good g lim s → lim < fuel + s.t.length → ∀ {r : Nat}, r < s.t.length → s.rp r = r → ∀ {w : W}, LOk g w → ∀ s', fillF (2 * g) lim fuel s r w = some s' → Good g lim s' ∧ Ext g s s'
  | 0, _, _, _, _, _, _, _, _, s', e => by cases e
  | fuel + 1, s, h, hf, r, hr, hl, w, hw, s', e => by
    obtain ⟨a, b⟩ := scan_rest h.rest hr hl hw
    unfold fillF at e
    cases hsc : scanS (2 * g) s r w with
    | mk s2 o =>
      rw [hsc] at e
      cases o with
      | none =>
        simp only at e
        cases e
        obtain ⟨h1, h2, h3, h4⟩ := a s' hsc
        exact ⟨h.of_ext h1 h2 h3 h4, h2⟩
      | some fc =>
        obtain ⟨f, c⟩ := fc
        simp only at e
        obtain ⟨-, h2, h3, h4, h5⟩ := b _ _ _ hsc
        split at e
        · cases e
        · rename_i hne
          obtain ⟨k1, k2⟩ := h.defn h2 h3 h4 h5 (by have := h.n2; omega)
          have hn := length_def (s := s) (2 * g) f c
          obtain ⟨k3, k4⟩ := fillF_good fuel k1 (by omega) (r := r) (by omega) (by rw [rp_def_old h.rest.inv _ _ _ hr]; exact hl) hw s' e
          exact ⟨k3, k2.trans h.rest k1.rest k4⟩
theorem fill_good (h : Good g lim s) {r : Nat} (hr : r < s.t.length) (hl : s.rp r = r) {w : W} (hw : LOk g w) {s' : St} (e : fillS (2 * g) lim s r w = some s') : Good g lim s' ∧ Ext g s s' := by
  have := h.n2
  exact fillF_good _ h (by omega) hr hl hw s' e
theorem getD_all {P : W → Prop} {l : List W} (h : ∀ j, j < l.length → P (l.getD j [])) (h0 : P []) (j : Nat) : P (l.getD j []) := by
  rcases Nat.lt_or_ge j l.length with h1 | h1
  · exact h j h1
  · rw [List.getD_eq_getElem?_getD, List.getElem?_eq_none h1]; exact h0
theorem LOk.nil : LOk g [] := fun x hx => by cases hx
/-- the cosets below k are complete -/
def Comp (g : Nat) (s : St) (k : Nat) : Prop := ∀ x, x < k → x < s.t.length → ∀ c, c < 2 * g → 0 ≤ s.t.at (s.rp x) c
theorem Comp.ext (h0 : Rest g s0) (h : Ext g s0 s1) {k : Nat} (hk : k ≤ s0.t.length) (hc : Comp g s0 k) : Comp g s1 k := fun x hx _ c hcc => by
  have hx0 : x < s0.t.length := by omega
  obtain ⟨y, hy⟩ := Int.eq_ofNat_of_zero_le (hc x hx hx0 c hcc)
  have := h.edge (s0.rp x) c y (h0.inv.rlt hx0) hcc hy
  rw [h.coarse x hx0] at this
  unfold Edge at this
  omega
theorem start_good (hg : 1 ≤ lim) : Good g lim (startS (2 * g)) := by
  have h0 : Rest g nilS := ⟨⟨fun r hr => absurd hr (by simp [nilS]), fun r hr => absurd hr (by simp [nilS]), rfl, fun r hr => absurd hr (by simp [nilS]), fun r hr => absurd hr (by simp [nilS]), fun r hr => absurd hr (by simp [nilS])⟩, fun r hr => absurd hr (by simp [nilS]), rfl⟩
  have hr := h0.add
  have hn : (startS (2 * g)).t.length = 1 := by unfold startS; rw [length_add]; rfl
  refine ⟨hr, by omega, by omega, fun x hx => ?_, ?_, ?_⟩
  · have h1 : (startS (2 * g)).rp x = 0 := by have : (startS (2 * g)).rp x ≤ x := hr.inv.rle x hx; omega
    rw [h1]; exact .refl _
  · show 0 ≤ max (0 : Int) (0 + 1); omega
  · show max (0 : Int) (0 + 1) ≤ lim; omega
theorem sub_good {sub : List W} (hg : 1 ≤ lim) (hs : ∀ j, j < sub.length → LOk g (sub.getD j [])) {s' : St} {k : Nat} (e : optTo (subS (2 * g) lim sub) k (startS (2 * g)) = some s') : Good g lim s' :=
  optTo_inv (p := fun _ s => Good g lim s) (start_good hg) k (fun i _x _y _ hx hy => (fill_good hx hx.n1 (rp_zero hx.rest hx.n1) (getD_all hs LOk.nil i) hy).1) s' e
theorem rel_good {rels : List W} (hs : ∀ j, j < rels.length → LOk g (rels.getD j [])) {r : Nat} (h : Good g lim s) (hr : r < s.t.length) {s' : St} {k : Nat} (e : optTo (relS (2 * g) lim rels r) k s = some s') : Good g lim s' ∧ Ext g s s' :=
  optTo_inv (p := fun _ x => Good g lim x ∧ Ext g s x) ⟨h, Ext.refl h.rest⟩ k (fun i x y _ ⟨hx, hx2⟩ hy => by
    unfold relS at hy
    split at hy
    · rename_i hl
      obtain ⟨a, b⟩ := fill_good hx (Nat.lt_of_lt_of_le hr hx2.n) hl (getD_all hs LOk.nil i) hy
      exact ⟨a, hx2.trans h.rest hx.rest b⟩
    · cases hy; exact ⟨hx, hx2⟩) s' e
theorem col_good {r : Nat} (h : Good g lim s) (hr : r < s.t.length) {k : Nat} (hk : k ≤ 2 * g) {s' : St} (e : optTo (colS (2 * g) lim r) k s = some s') : Good g lim s' ∧ Ext g s s' ∧ (s'.rp r = s.rp r) ∧ (s'.rp r = r → ∀ c, c < k → 0 ≤ s'.t.at r c) :=
  optTo_inv (p := fun k x => Good g lim x ∧ Ext g s x ∧ (x.rp r = s.rp r) ∧ (x.rp r = r → ∀ c, c < k → 0 ≤ x.t.at r c)) ⟨h, Ext.refl h.rest, rfl, fun _ c hc => absurd hc (by omega)⟩ k (fun c x y hc ⟨hx, hx2, hx3, hx4⟩ hy => by
    have hrx : r < x.t.length := Nat.lt_of_lt_of_le hr hx2.n
    unfold colS at hy
    split at hy
    · rename_i hl
      split at hy
      · cases hy
      · rename_i hne
        cases hy
        obtain ⟨a, b⟩ := hx.defn hrx (by omega) hl.1 hl.2 (by have := hx.n2; omega)
        have hrp := rp_def_old hx.rest.inv (2 * g) r c hrx
        refine ⟨a, hx2.trans h.rest hx.rest b, hrp.trans hx3, fun h' c' hc' => ?_⟩
        have hl' : x.rp r = r := hl.1
        rcases Nat.lt_or_ge c' c with h1 | h1
        · obtain ⟨z, hz⟩ := Int.eq_ofNat_of_zero_le (hx4 hl' c' h1)
          have := b.edge r c' z hrx (by omega) hz
          rw [h'] at this
          unfold Edge at this
          omega
        · obtain rfl : c' = c := by omega
          obtain ⟨-, -, d⟩ := hx.rest.defn hrx (by omega) hl.1 hl.2
          unfold Edge at d
          omega
    · rename_i hl
      cases hy
      refine ⟨hx, hx2, hx3, fun h' c' hc' => ?_⟩
      rcases Nat.lt_or_ge c' c with h1 | h1
      · exact hx4 h' c' h1
      · obtain rfl : c' = c := by omega
        rcases Int.lt_or_le (x.t.at r c') 0 with h2 | h2
        · exact absurd ⟨h', h2⟩ hl
        · exact h2) s' e
theorem row_good {rels : List W} (hs : ∀ j, j < rels.length → LOk g (rels.getD j [])) {r : Nat} (h : Good g lim s) (hr : r < s.t.length) (hc : Comp g s r) {s' : St} (e : rowS (2 * g) lim rels r s = some s') : Good g lim s' ∧ Ext g s s' ∧ Comp g s' (r + 1) := by
  unfold rowS at e
  cases hx : optTo (relS (2 * g) lim rels r) rels.length s with
  | none => rw [hx] at e; cases e
  | some x =>
    rw [hx] at e
    obtain ⟨a, b⟩ := rel_good hs h hr hx
    have hrx : r < x.t.length := Nat.lt_of_lt_of_le hr b.n
    obtain ⟨a2, b2, b3, b4⟩ := col_good a hrx (Nat.le_refl _) e
    have hE := b.trans h.rest a.rest b2
    have hC := Comp.ext h.rest hE (by omega) hc
    refine ⟨a2, hE, fun y hy hyn c hcc => ?_⟩
    rcases Nat.lt_or_ge y r with h1 | h1
    · exact hC y h1 hyn c hcc
    · obtain rfl : y = r := by omega
      by_cases hl : s'.rp y = y
      · rw [hl]; exact b4 hl c hcc
      · have h2 := a2.rest.inv.rle y hyn
        have h3 := hC (s'.rp y) (by omega) (a2.rest.inv.rlt hyn) c hcc
        rwa [a2.rest.inv.rid y hyn] at h3
/-- what the whole procedure ends with -/
theorem run_good {rels sub : List W} (hg : 1 ≤ lim) (hr : ∀ j, j < rels.length → LOk g (rels.getD j [])) (hs : ∀ j, j < sub.length → LOk g (sub.getD j [])) {s' : St} (e : runS (2 * g) lim rels sub = some s') : Good g lim s' ∧ Comp g s' s'.t.length := by
  unfold runS at e
  cases hx : optTo (subS (2 * g) lim sub) sub.length (startS (2 * g)) with
  | none => rw [hx] at e; cases e
  | some x =>
    rw [hx] at e
    have hG := sub_good hg hs hx
    obtain ⟨a, b⟩ := optTo_inv (p := fun k x => Good g lim x ∧ Comp g x k) ⟨hG, fun x hx => absurd hx (by omega)⟩ lim (fun r x y _ ⟨hx1, hx2⟩ hy => by
      unfold rowsS at hy
      split at hy
      · rename_i hlt
        obtain ⟨a, -, c⟩ := row_good hr hx1 hlt hx2 hy
        exact ⟨a, c⟩
      · rename_i hlt
        cases hy
        exact ⟨hx1, fun z _ hzn c hcc => hx2 z (by omega) hzn c hcc⟩) s' e
    exact ⟨a, fun z hz hzn c hcc => b z (by have := a.n2; omega) hzn c hcc⟩
end
end Go.Proofs.Ct
namespace Go.Proofs.Ct
def livTo (s : St) (n : Nat) : List Nat := (List.range n).filter fun x => decide (s.rp x = x)
def liv (s : St) : List Nat := livTo s s.t.length
/-- the number of a live coset: how many live before it -/
def num (s : St) (x : Nat) : Nat := (livTo s x).length
def tabS (s : St) : Tb := (liv s).map fun x => (s.t.row x).map fun v => (num s v.toNat : Int)
theorem livTo_succ (s : St) (n : Nat) : livTo s (n + 1) = if s.rp n = n then livTo s n ++ [n] else livTo s n := by
  unfold livTo
  rw [List.range_succ, List.filter_append]
  simp only [List.filter_cons, List.filter_nil, decide_eq_true_eq]
  split <;> simp
theorem livTo_pre (s : St) {a b : Nat} (h : a ≤ b) : livTo s a <+: livTo s b := by
  induction b with
  | zero => rw [show a = 0 by omega]; exact List.prefix_rfl
  | succ b ih =>
    by_cases e : a = b + 1
    · rw [e]; exact List.prefix_rfl
    · refine (ih (by omega)).trans ?_
      rw [livTo_succ]
      split
      · exact ⟨_, rfl⟩
      · exact List.prefix_rfl
theorem num_lt {s : St} {x n : Nat} (hx : x < n) (hl : s.rp x = x) : num s x < (livTo s n).length ∧ (livTo s n).getD (num s x) 0 = x := by
  have h1 : livTo s (x + 1) = livTo s x ++ [x] := by rw [livTo_succ, if_pos hl]
  obtain ⟨r, hr⟩ := livTo_pre s (show x + 1 ≤ n from hx)
  rw [← hr, h1]
  unfold num
  simp [List.getD_eq_getElem?_getD]
theorem livTo_at {s : St} : ∀ (n i : Nat), i < (livTo s n).length → (livTo s n).getD i 0 < n ∧ s.rp ((livTo s n).getD i 0) = (livTo s n).getD i 0 ∧ num s ((livTo s n).getD i 0) = i
  | 0, i, h => by simp [livTo] at h
  | n + 1, i, h => by
    rw [livTo_succ] at h ⊢
    by_cases hl : s.rp n = n
    · rw [if_pos hl] at h ⊢
      rcases Nat.lt_or_ge i (livTo s n).length with h1 | h1
      · have : (livTo s n ++ [n]).getD i 0 = (livTo s n).getD i 0 := by simp [List.getD_eq_getElem?_getD, List.getElem?_append_left h1]
        rw [this]
        obtain ⟨a, b, c⟩ := livTo_at n i h1
        exact ⟨by omega, b, c⟩
      · have hi : i = (livTo s n).length := by simp at h; omega
        have : (livTo s n ++ [n]).getD i 0 = n := by rw [hi]; simp [List.getD_eq_getElem?_getD]
        rw [this, hi]
        exact ⟨by omega, hl, rfl⟩
    · rw [if_neg hl] at h ⊢
      obtain ⟨a, b, c⟩ := livTo_at n i h
      exact ⟨by omega, b, c⟩
theorem livTo_le (s : St) (n : Nat) : (livTo s n).length ≤ n := by
  have := List.length_filter_le (fun x => decide (s.rp x = x)) (List.range n)
  simpa [livTo] using this
theorem length_tab (s : St) : (tabS s).length = (liv s).length := by simp [tabS]
theorem row_tab {s : St} {i : Nat} (h : i < (liv s).length) : (tabS s).row i = (s.t.row ((liv s).getD i 0)).map fun v => (num s v.toNat : Int) := by
  unfold tabS Tb.row
  simp [List.getD_eq_getElem?_getD, h]
theorem at_tab {s : St} {i c : Nat} (h : i < (liv s).length) (hc : c < (s.t.row ((liv s).getD i 0)).length) : (tabS s).at i c = (num s (s.t.at ((liv s).getD i 0) c).toNat : Int) := by
  unfold Tb.at
  rw [row_tab h]
  generalize s.t.row ((liv s).getD i 0) = row at *
  simp [List.getD_eq_getElem?_getD, hc]
/-- a table in which all can be reached has a full order -/
theorem ord_closed {g : Nat} {t : Tb} (hg : TGood g t) (hpos : ∀ r, r < t.length → ∀ c, c < 2 * g → 0 ≤ t.at r c) {x : Nat} (hx : x < t.length) (hm : (x : Int) ∈ ord t 0) {c : Nat} (hc : c < 2 * g) : t.at x c ∈ ord t 0 := by
  have hn1 := hg.n1
  have hC := Cos.ordTo hg (b := 0) (by omega) (by omega) t.length
  have hle := length_le_of_nodup hC
  obtain ⟨j, hj, he⟩ := List.mem_iff_getElem.1 hm
  have hjl : j < t.length := Nat.lt_of_lt_of_le hj hle
  have hlt : j < (ordTo t 0 j).length := by
    rcases Nat.lt_or_ge j (ordTo t 0 j).length with h | h
    · exact h
    · have := ordTo_stable t 0 h (by omega : j ≤ t.length)
      unfold ord at hj
      rw [this] at hj
      omega
  have hget : (ordTo t 0 j).getD j 0 = (x : Int) := by
    rw [← pre_get (ordTo_mono t 0 (by omega : j ≤ t.length)) hlt]
    unfold ord at he hj
    rw [List.getD_eq_getElem?_getD, List.getElem?_eq_getElem hj]
    simpa using he
  have hstep : ordTo t 0 (j + 1) = visitTo (t.row x) (t.row x).length (ordTo t 0 j) := by
    rw [ordTo, if_pos hlt, hget, Int.toNat_natCast]
  have hp := hpos x hx c hc
  have hmem : t.at x c ∈ ordTo t 0 (j + 1) := by
    rw [hstep]
    exact mem_visitTo (by rw [hg.len x hx]; exact hc) hp _
  exact (ordTo_mono t 0 (by omega : j + 1 ≤ t.length)).subset hmem
theorem ge_of_all : ∀ (n : Nat) (l : List Int), (∀ r : Nat, r < n → (r : Int) ∈ l) → n ≤ l.length
  | 0, _, _ => Nat.zero_le _
  | n + 1, l, h => by
    have hm := h n (by omega)
    have := ge_of_all n (l.erase n) fun r hr => (List.mem_erase_of_ne (by omega : (r : Int) ≠ (n : Int))).2 (h r (by omega))
    rw [List.length_erase_of_mem hm] at this
    have h1 : 0 < l.length := List.length_pos_of_mem hm
    omega
theorem std_of_reach {g : Nat} {t : Tb} (hg : TGood g t) (hpos : ∀ r, r < t.length → ∀ c, c < 2 * g → 0 ≤ t.at r c) (hr : ∀ x, x < t.length → Reach g t 0 x) : std t 0 = some (outTo (ord t 0) t t.length) := by
  have hn1 := hg.n1
  have hin : ∀ x, Reach g t 0 x → x < t.length ∧ (x : Int) ∈ ord t 0 := fun x hx => by
    induction hx with
    | refl => exact ⟨hg.n1, (ordTo_mono t 0 (Nat.zero_le t.length)).subset (by simp [ordTo])⟩
    | @step y z c _ hc he ih =>
      obtain ⟨h1, h2⟩ := ih
      have h3 := ord_closed hg hpos h1 h2 hc
      rw [show t.at y c = (z : Int) from he] at h3
      have := (hg.bd y h1 c hc).2
      rw [show t.at y c = (z : Int) from he] at this
      exact ⟨by omega, h3⟩
  have hC := Cos.ordTo hg (b := 0) (by omega) (by omega) t.length
  have hl : (ord t 0).length = t.length := Nat.le_antisymm (length_le_of_nodup hC) (ge_of_all _ _ fun r hr' => (hin r (hr r hr')).2)
  refine std_full hg (by omega) (by omega) hl fun j hj c hc => ?_
  have hget := hC.get (k := j) (by show j < (ord t 0).length; omega)
  have hrow : ((ord t 0).getD j 0).toNat < t.length := by
    have h1 : (ordTo t 0 t.length).getD j 0 = (ord t 0).getD j 0 := rfl
    omega
  exact hpos _ hrow c (by rw [hg.len _ hrow] at hc; exact hc)
section
variable {g lim : Nat} {s : St}
theorem tab_good (hg1 : 1 ≤ g) (hg16 : g ≤ 16) (hlim : lim ≤ 20000) (h : Good g lim s) (hc : Comp g s s.t.length) :
    TGood g (tabS s) ∧ (∀ r, r < (tabS s).length → ∀ c, c < 2 * g → 0 ≤ (tabS s).at r c) ∧ (∀ x, x < (tabS s).length → Reach g (tabS s) 0 x) := by
  have hI := h.rest.inv
  have h0 := rp_zero h.rest h.n1
  have hpos0 : 0 < (liv s).length := by
    have := (num_lt h.n1 h0).1
    unfold liv
    omega
  have hlen := length_tab s
  -- the row of a live coset
  have hrow : ∀ i, i < (liv s).length → (liv s).getD i 0 < s.t.length ∧ s.rp ((liv s).getD i 0) = (liv s).getD i 0 ∧ num s ((liv s).getD i 0) = i := fun i hi => livTo_at _ i hi
  have hat : ∀ i, i < (liv s).length → ∀ c, c < 2 * g → ∃ y, Edge s.t ((liv s).getD i 0) c y ∧ s.rp y = y ∧ y < s.t.length ∧ (tabS s).at i c = (num s y : Int) ∧ num s y < (liv s).length ∧ (liv s).getD (num s y) 0 = y := fun i hi c hcc => by
    obtain ⟨h1, h2, h3⟩ := hrow i hi
    obtain ⟨y, hy⟩ := Int.eq_ofNat_of_zero_le (by have := hc _ h1 h1 c hcc; rwa [h2] at this)
    obtain ⟨-, h4, h5⟩ := h.rest.live h1 hcc (show Edge s.t _ _ y from hy)
    obtain ⟨h6, h7⟩ := num_lt (n := s.t.length) h5 h4
    refine ⟨y, hy, h4, h5, ?_, h6, h7⟩
    rw [at_tab hi (by rw [hI.len _ h1]; exact hcc), hy, Int.toNat_natCast]
  refine ⟨⟨hg1, hg16, by omega, ?_, fun r hr => ?_, fun r hr c hcc => ?_, fun r hr c hcc _ => ?_⟩, fun r hr c hcc => ?_, fun x hx => ?_⟩
  · have := livTo_le s s.t.length
    have := h.n2
    unfold liv at hlen
    omega
  · rw [hlen] at hr
    rw [row_tab hr, List.length_map, hI.len _ (hrow r hr).1]
  · rw [hlen] at hr ⊢
    obtain ⟨y, -, -, -, h5, h6, -⟩ := hat r hr c hcc
    rw [h5]; omega
  · rw [hlen] at hr
    obtain ⟨y, h2, h3, h4, h5, h6, h7⟩ := hat r hr c hcc
    obtain ⟨z, k2, k3, k4, k5, k6, k7⟩ := hat (num s y) h6 (flp c) (flp_lt2 hcc)
    rw [h5, Int.toNat_natCast, k5]
    rw [h7] at k2
    have hb := h2.back hI (hrow r hr).1 hcc
    unfold Edge at hb k2
    have : z = (liv s).getD r 0 := by omega
    rw [this, (hrow r hr).2.2]
  · rw [hlen] at hr
    obtain ⟨y, -, -, -, h5, -, -⟩ := hat r hr c hcc
    rw [h5]; omega
  · rw [hlen] at hx
    obtain ⟨h1, h2, h3⟩ := hrow x hx
    have hR := h.conn _ h1
    rw [h2] at hR
    have key : ∀ y, Reach g s.t 0 y → y < s.t.length ∧ s.rp y = y ∧ Reach g (tabS s) (num s 0) (num s y) := fun y hy => by
      induction hy with
      | refl => exact ⟨h.n1, h0, .refl _⟩
      | @step y z c _ hcc he ih =>
        obtain ⟨i1, i2, i3⟩ := ih
        obtain ⟨k1, k2⟩ := num_lt (n := s.t.length) i1 i2
        obtain ⟨z', j2, j3, j4, j5, -, -⟩ := hat (num s y) k1 c hcc
        rw [show (liv s).getD (num s y) 0 = y from k2] at j2
        have : z = z' := by unfold Edge at he j2; omega
        subst this
        exact ⟨j4, j3, .step i3 hcc j5⟩
    have := (key _ hR).2.2
    rw [h3] at this
    have hz : num s 0 = 0 := rfl
    rwa [hz] at this
/-- the table that an enumeration ends with, made standard -/
theorem tab_std (hg1 : 1 ≤ g) (hg16 : g ≤ 16) (hlim : lim ≤ 20000) (h : Good g lim s) (hc : Comp g s s.t.length) : TGood g (tabS s) ∧ stdE g (tabS s) 0 = (outTo (ord (tabS s) 0) (tabS s) (tabS s).length, 0) := by
  obtain ⟨a, b, c⟩ := tab_good hg1 hg16 hlim h hc
  refine ⟨a, ?_⟩
  have hn1 := a.n1
  unfold stdE
  rw [check_of_good a, if_neg (by simp), if_neg (by omega), std_of_reach a b c]
end
end Go.Proofs.Ct
namespace Go.Proofs.Ct
/-- in the list P of parents, the root of x is r -/
inductive Root (P : List Int) : Nat → Nat → Prop where
  | here {x : Nat} (h : P.getD x 0 = (x : Int)) : Root P x x
  | up {x y r : Nat} (h : P.getD x 0 = (y : Int)) (hl : y < x) (hr : Root P y r) : Root P x r
theorem Root.le {P : List Int} {x r : Nat} (h : Root P x r) : r ≤ x := by
  induction h with
  | here => exact Nat.le_refl _
  | up _ hl _ ih => omega
theorem Root.self {P : List Int} {x r : Nat} (h : Root P x r) : P.getD r 0 = (r : Int) := by
  induction h with
  | here h => exact h
  | up _ _ _ ih => exact ih
theorem Root.parent {P : List Int} {x r : Nat} (h : Root P x r) : ∃ y : Nat, P.getD x 0 = (y : Int) ∧ y ≤ x ∧ Root P y r ∧ (y = x ↔ r = x) := by
  cases h with
  | here h => exact ⟨x, h, Nat.le_refl _, .here h, by simp⟩
  | @up _ y _ h hl hr => exact ⟨y, h, Nat.le_of_lt hl, hr, ⟨fun e => by omega, fun e => by have := hr.le; omega⟩⟩
theorem Root.unique {P : List Int} {x r r' : Nat} (h : Root P x r) (h' : Root P x r') : r = r' := by
  induction h with
  | here h =>
    cases h' with
    | here => rfl
    | up h2 hl _ => omega
  | @up x y _ h hl hr ih =>
    cases h' with
    | here h2 => omega
    | @up _ y' _ h2 hl2 hr2 =>
      obtain rfl : y = y' := by omega
      exact ih hr2
theorem getD_set_of {l : List Int} {k j : Nat} {v : Int} (hk : k < l.length) : (l.set k v).getD j 0 = if k = j then v else l.getD j 0 := by
  rw [List.getD_eq_getElem?_getD, List.getElem?_set, List.getD_eq_getElem?_getD]
  by_cases h : k = j
  · subst h; simp [hk]
  · simp [h]
/-- a way is made shorter -/
theorem Root.short {P : List Int} {c q : Nat} (hc : Root P c q) (hcl : c < P.length) {x r : Nat} (h : Root P x r) : Root (P.set c (q : Int)) x r := by
  have hq := hc.self
  have hql := hc.le
  have hget : ∀ j, (P.set c (q : Int)).getD j 0 = if c = j then (q : Int) else P.getD j 0 := fun j => getD_set_of hcl
  have hrq : Root (P.set c (q : Int)) q q := .here (by
    rw [hget]
    split
    · rfl
    · exact hq)
  induction h with
  | @here x h =>
    refine .here ?_
    rw [hget]
    split
    · rename_i e
      subst e
      have := hc.unique (.here h)
      rw [this]
    · exact h
  | @up x y r h hl hr ih =>
    by_cases e : c = x
    · subst e
      have hr' := hc.unique (.up h hl hr)
      subst hr'
      have : q ≤ y := hr.le
      exact .up (y := q) (by rw [hget, if_pos rfl]) (by omega) hrq
    · exact .up (by rw [hget, if_neg e]; exact h) hl ih
/-- two roots are joined -/
theorem Root.link {P : List Int} {a b : Nat} (ha : P.getD a 0 = (a : Int)) (hb : P.getD b 0 = (b : Int)) (hba : b < a) (hal : a < P.length) {x r : Nat} (h : Root P x r) : Root (P.set a (b : Int)) x (if r = a then b else r) := by
  have hget : ∀ j, (P.set a (b : Int)).getD j 0 = if a = j then (b : Int) else P.getD j 0 := fun j => getD_set_of hal
  have hbb : Root (P.set a (b : Int)) b b := .here (by rw [hget, if_neg (by omega)]; exact hb)
  induction h with
  | @here x h =>
    by_cases e : x = a
    · subst e
      rw [if_pos rfl]
      exact .up (y := b) (by rw [hget, if_pos rfl]) hba hbb
    · rw [if_neg e]
      exact .here (by rw [hget, if_neg (fun h => e h.symm)]; exact h)
  | @up x y r h hl hr ih =>
    have e : a ≠ x := fun e => by subst e; omega
    exact .up (by rw [hget, if_neg e]; exact h) hl ih
theorem Root.more {P : List Int} {x r : Nat} (hx : x < P.length) (h : Root P x r) (z : Int) : Root (P ++ [z]) x r := by
  have hget : ∀ j, j < P.length → (P ++ [z]).getD j 0 = P.getD j 0 := fun j hj => by simp [List.getD_eq_getElem?_getD, List.getElem?_append_left hj]
  induction h with
  | here h => exact .here (by rw [hget _ hx]; exact h)
  | up h hl hr ih => exact .up (by rw [hget _ hx]; exact h) hl (ih (by omega))
/-- the parents give the representatives -/
structure Roots (P : List Int) (s : St) : Prop where
  len : P.length = s.t.length
  root : ∀ x, x < s.t.length → Root P x (s.rp x)
theorem Roots.short {P : List Int} {s : St} (h : Roots P s) {c : Nat} (hc : c < s.t.length) : Roots (P.set c (s.rp c : Int)) s :=
  ⟨by simpa using h.len, fun x hx => (h.root c hc).short (by rw [h.len]; exact hc) (h.root x hx)⟩
theorem Roots.merge {g : Nat} {P : List Int} {s : St} (hI : Inv g s) (h : Roots P s) {a b : Nat} (ha : a < s.t.length) (hb : b < s.t.length) (hne : s.rp a ≠ s.rp b) : Roots (P.set (max (s.rp a) (s.rp b)) ((min (s.rp a) (s.rp b) : Nat) : Int)) (mergeS s a b) := by
  have ht := t_merge s a b
  have hra := (h.root a ha).self
  have hrb := (h.root b hb).self
  have hla := hI.rlt ha
  have hlb := hI.rlt hb
  refine ⟨by rw [ht]; simpa using h.len, fun x hx => ?_⟩
  rw [ht] at hx
  rw [rp_merge hI ha hb hx]
  refine Root.link ?_ ?_ (by omega) (by rw [h.len]; omega) (h.root x hx)
  · rcases Nat.le_total (s.rp a) (s.rp b) with h' | h'
    · rw [Nat.max_eq_right h']; exact hrb
    · rw [Nat.max_eq_left h']; exact hra
  · rcases Nat.le_total (s.rp a) (s.rp b) with h' | h'
    · rw [Nat.min_eq_left h']; exact hra
    · rw [Nat.min_eq_right h']; exact hrb
theorem Roots.add {g : Nat} {P : List Int} {s : St} (hI : Inv g s) (h : Roots P s) (m : Nat) : Roots (P ++ [(s.t.length : Int)]) (addS m s) := by
  refine ⟨by rw [length_add]; simp [h.len], fun x hx => ?_⟩
  rw [length_add] at hx
  rcases Nat.lt_or_ge x s.t.length with h1 | h1
  · rw [rp_add_old hI m h1]
    exact (h.root x h1).more (by rw [h.len]; exact h1) _
  · obtain rfl : x = s.t.length := by omega
    rw [rp_add_new hI m]
    exact .here (by rw [← h.len]; simp [List.getD_eq_getElem?_getD])
/-- the rows and the queue do not matter -/
theorem Roots.of_rep {P : List Int} {s s' : St} (h : Roots P s) (hn : s'.t.length = s.t.length) (hr : s'.rep = s.rep) : Roots P s' :=
  ⟨by rw [hn]; exact h.len, fun x hx => by rw [hn] at hx; have := h.root x hx; unfold St.rp at this ⊢; rw [hr]; exact this⟩
end Go.Proofs.Ct
namespace Go.Proofs
open Go.RowKit Go.Shelf Go.Proofs.Ct Go.Maps
def nats (l : List Nat) : List Int := l.map Int.ofNat
theorem length_nats (l : List Nat) : (nats l).length = l.length := by simp [nats]
theorem nats_app (a b : List Nat) : nats (a ++ b) = nats a ++ nats b := by simp [nats]
theorem nats_getD (l : List Nat) (k : Nat) : (nats l).getD k 0 = (l.getD k 0 : Int) := by
  unfold nats
  by_cases h : k < l.length
  · simp [List.getD_eq_getElem?_getD, h]
  · simp [List.getD_eq_getElem?_getD, List.getElem?_eq_none (by omega : l.length ≤ k)]
/-- an element of an owned list of numbers is written -/
theorem ownI_set {base : Nat} {w : World} {v : Value} {xs : List Int} (h : OwnI base w v xs) {g k : Nat} (hg : v.ownBlock = some g) (_hk : k < xs.length) (z : Int) : OwnI base (w.setCell ⟨g, k, none⟩ (.int .i64 z)) v (xs.set k z) := by
  obtain ⟨hl, h⟩ := h
  rcases h with ⟨rfl, -⟩ | ⟨g', cap, cur, rfl, hb, hc, hn, hm, hs, ht⟩
  · cases hg
  · obtain rfl : g' = g := Option.some.inj hg
    refine ⟨by simp [ints], .inr ⟨g', cap, cur.setIfInBounds k (.int .i64 z), by simp, hb, by simp [World.setCell, Array.getElem?_modify, hc], by simpa using hn, hm, by simpa using hs, ?_⟩⟩
    rw [Array.toList_setIfInBounds, List.take_set, List.length_set, ht]
    simp [ints, List.map_set]
theorem ownI_cell {base : Nat} {w : World} {v : Value} {xs : List Int} (h : OwnI base w v xs) (hn : 0 < xs.length) : ∃ g c, v = .slice (some ⟨g, 0, none⟩) xs.length c ∧ base ≤ g ∧ g < w.heap.size ∧ (∀ k, k < xs.length → w.cell? ⟨g, k, none⟩ = some (.int .i64 (xs.getD k 0))) ∧ ∀ k, w.frozen? ⟨g, k, none⟩ = false := by
  obtain ⟨hl, h⟩ := h
  rcases h with ⟨rfl, h0⟩ | ⟨g, cap, cur, rfl, hb, hc, h1, hm, hs, ht⟩
  · omega
  · refine ⟨g, cap, rfl, hb, (Array.getElem?_eq_some_iff.1 hc).1, fun k hk => ?_, fun k => by simp [World.frozen?, hc]⟩
    rw [cell_of_row _ _ _ _ _ _ hc]
    have h2 : (cur.toList.take (xs.length * 1))[k]? = (ints xs)[k]? := by rw [ht]
    rw [List.getElem?_take, if_pos (by omega)] at h2
    simpa [ints, hk, List.getD_eq_getElem?_getD] using h2
theorem ownI_at {base : Nat} {w : World} {g n c : Nat} {xs : List Int} (h : OwnI base w (.slice (some ⟨g, 0, none⟩) n c) xs) {k : Nat} (hk : k < xs.length) : w.cell? ⟨g, k, none⟩ = some (.int .i64 (xs.getD k 0)) ∧ w.frozen? ⟨g, k, none⟩ = false := by
  obtain ⟨g', c', e, -, -, h1, h2⟩ := ownI_cell h (by omega)
  have e1 : g = g' := by have := congrArg Value.ownBlock e; simpa [Value.ownBlock] using this
  subst e1
  exact ⟨h1 k hk, h2 k⟩
/-- rows, parents and queue in memory, all of the call's own from base on -/
structure CoreM (base : Nat) (w : World) (s : St) (P : List Int) (vr vp vq : Value) (bl cs : Nat → Nat) : Prop where
  out : w.ownsRow base 24 1 vr s.t.length ((List.range s.t.length).map fun i => .slice (some ⟨bl i, 0, none⟩) (s.t.row i).length (cs i))
  row : ∀ i, i < s.t.length → base ≤ bl i ∧ XsAt w (bl i) (s.t.row i) ∧ (s.t.row i).length ≤ cs i ∧ cs i ≤ 9223372036854775807
  inj : ∀ i j, i < s.t.length → j < s.t.length → bl i = bl j → i = j
  par : OwnI base w vp P
  que : OwnI base w vq (nats s.q)
  sepP : ∀ i, i < s.t.length → vp.ownBlock ≠ some (bl i)
  sepQ : ∀ i, i < s.t.length → vq.ownBlock ≠ some (bl i)
  pq : ∀ r, vp.ownBlock = some r → vq.ownBlock ≠ some r
  root : Roots P s
section
variable {base : Nat} {w w' : World} {s : St} {P : List Int} {vr vp vq : Value} {bl cs : Nat → Nat}
/-- nothing of it lies in the blocks that turn -/
theorem CoreM.keep (h : CoreM base w s P vr vp vq bl cs) (hk : ∀ k C e, base ≤ k → w.heap[k]? = some (.cells C e (0, 0)) → (e = 3 ∨ e = 24) → w'.heap[k]? = w.heap[k]?) : CoreM base w' s P vr vp vq bl cs := by
  refine ⟨owns_keep h.out fun r hr => ?_, fun i hi => ?_, h.inj, owns_keep h.par fun r hr => ?_, owns_keep h.que fun r hr => ?_, h.sepP, h.sepQ, h.pq, h.root⟩
  · obtain ⟨a, C, hC⟩ := owns_block h.out r hr
    exact hk r C 24 a hC (.inr rfl)
  · obtain ⟨a, b, c⟩ := h.row i hi
    obtain ⟨C, hC, -⟩ := id b
    exact ⟨a, b.keep (hk _ C 3 a hC (.inl rfl)), c⟩
  · obtain ⟨a, C, hC⟩ := owns_block h.par r hr
    exact hk r C 3 a hC (.inl rfl)
  · obtain ⟨a, C, hC⟩ := owns_block h.que r hr
    exact hk r C 3 a hC (.inl rfl)
theorem CoreM.below (h : CoreM base w s P vr vp vq bl cs) (hb : Below w.heap.size w w') : CoreM base w' s P vr vp vq bl cs :=
  h.keep fun k _C _e _ hC _ => hb.block k (Array.getElem?_eq_some_iff.1 hC).1
/-- another block is written -/
theorem CoreM.other (h : CoreM base w s P vr vp vq bl cs) {b : Nat} {C0 : Array Value} {T : TypeId} (hb : w.heap[b]? = some (.cells C0 T (0, 0))) (h3 : T ≠ 3) (h24 : T ≠ 24) (k : Nat) (v : Value) : CoreM base (w.setCell ⟨b, k, none⟩ v) s P vr vp vq bl cs :=
  h.keep fun j C e _ hC he => Below.heap_setCell w ⟨b, k, none⟩ v j fun e' => by
    have e'' : j = b := e'
    rw [e'', hb] at hC
    cases hC
    rcases he with he | he <;> simp_all
theorem CoreM.len (h : CoreM base w s P vr vp vq bl cs) : P.length = s.t.length := h.root.len
/-- reading an element of a row -/
theorem CoreM.at_ (h : CoreM base w s P vr vp vq bl cs) {r c : Nat} (hr : r < s.t.length) (hc : c < (s.t.row r).length) : ∃ g cap, vr = .slice (some ⟨g, 0, none⟩) s.t.length cap ∧ w.cell? ⟨g, r, none⟩ = some (.slice (some ⟨bl r, 0, none⟩) (s.t.row r).length (cs r)) ∧ w.cell? ⟨bl r, c, none⟩ = some (.int .i64 (s.t.at r c)) ∧ w.frozen? ⟨bl r, c, none⟩ = false := by
  obtain ⟨-, hX, -⟩ := h.row r hr
  obtain ⟨hl, ho⟩ := h.out
  rcases ho with ⟨-, h0⟩ | ⟨g, cap, cur, rfl, hb, hC, h1, hm, hs, ht⟩
  · omega
  · refine ⟨g, cap, rfl, ?_, hX.cell hc, hX.frozen c⟩
    rw [cell_of_row _ _ _ _ _ _ hC]
    have h2 : (cur.toList.take (s.t.length * 1))[r]? = ((List.range s.t.length).map fun i => Value.slice (some ⟨bl i, 0, none⟩) (s.t.row i).length (cs i))[r]? := by rw [ht]
    rw [List.getElem?_take, if_pos (by omega)] at h2
    simpa [hr] using h2
/-- writing an element of a row -/
theorem CoreM.set (h : CoreM base w s P vr vp vq bl cs) {r c : Nat} (hr : r < s.t.length) (hc : c < (s.t.row r).length) (z : Int) : CoreM base (w.setCell ⟨bl r, c, none⟩ (.int .i64 z)) { s with t := set2 s.t r c z } P vr vp vq bl cs := by
  have hne : ∀ k, k ≠ bl r → (w.setCell ⟨bl r, c, none⟩ (.int .i64 z)).heap[k]? = w.heap[k]? := fun k hk => Below.heap_setCell w ⟨bl r, c, none⟩ _ k hk
  obtain ⟨-, hXr, -⟩ := h.row r hr
  obtain ⟨Cr, hCr, -⟩ := id hXr
  refine ⟨?_, fun i hi => ?_, fun i j hi hj => h.inj i j (by simpa [length_set2] using hi) (by simpa [length_set2] using hj), owns_keep h.par fun k hk => hne k (fun e => h.sepP r hr (by rw [hk, e])), owns_keep h.que fun k hk => hne k (fun e => h.sepQ r hr (by rw [hk, e])), fun i hi => h.sepP i (by simpa [length_set2] using hi), fun i hi => h.sepQ i (by simpa [length_set2] using hi), h.pq, h.root.of_rep (length_set2 _ _ _ _) rfl⟩
  · simp only [length_set2, rowlen_set2]
    refine owns_keep h.out fun k hk => hne k fun e => ?_
    obtain ⟨-, C, hC⟩ := owns_block h.out k hk
    rw [e, hCr] at hC
    cases hC
  · simp only [length_set2] at hi
    obtain ⟨a, b, d⟩ := h.row i hi
    simp only [rowlen_set2]
    refine ⟨a, ?_, d⟩
    rw [row_set2]
    by_cases e : r = i
    · subst e
      rw [if_pos ⟨rfl, hr⟩]
      exact hXr.set hc z
    · rw [if_neg (fun h' => e h'.1)]
      exact b.keep (hne _ fun e' => e (h.inj r i hr hi e'.symm))
/-- writing a parent -/
theorem CoreM.setP (h : CoreM base w s P vr vp vq bl cs) {g x : Nat} (hg : vp.ownBlock = some g) (hx : x < P.length) (z : Int) {s' : St} (ht : s'.t = s.t) (hq : s'.q = s.q) (hroot : Roots (P.set x z) s') : CoreM base (w.setCell ⟨g, x, none⟩ (.int .i64 z)) s' (P.set x z) vr vp vq bl cs := by
  have hne : ∀ k, k ≠ g → (w.setCell ⟨g, x, none⟩ (.int .i64 z)).heap[k]? = w.heap[k]? := fun k hk => Below.heap_setCell w ⟨g, x, none⟩ _ k hk
  obtain ⟨-, Cg, hCg⟩ := owns_block h.par g hg
  refine ⟨?_, fun i hi => ?_, by rw [ht]; exact h.inj, ownI_set h.par hg hx z, by rw [hq]; exact owns_keep h.que fun k hk => hne k (fun e => h.pq g hg (by rw [hk, e])), by rw [ht]; exact h.sepP, by rw [ht]; exact h.sepQ, h.pq, hroot⟩
  · rw [ht]
    refine owns_keep h.out fun k hk => hne k fun e => ?_
    obtain ⟨-, C, hC⟩ := owns_block h.out k hk
    rw [e, hCg] at hC
    cases hC
  · rw [ht] at hi ⊢
    obtain ⟨a, b, d⟩ := h.row i hi
    exact ⟨a, b.keep (hne _ fun e => h.sepP i hi (by rw [hg, e])), d⟩
/-- a coset joins the queue -/
theorem CoreM.pushQ (h : CoreM base w s P vr vp vq bl cs) (hbw : base ≤ w.heap.size) (x : Nat) (hl : s.q.length ≤ 1000000) : ∃ A' c' w', (Builtin.append_ #[24, 24] 24 #[vq, .slice (some ⟨w.heap.size, 0, none⟩) 1 1]).run Try.prog (w.alloc (.cells #[.int .i64 (x : Int)] 3)) = .ok (.slice A' (s.q.length + 1) c') w' ∧
    CoreM base w' { s with q := s.q ++ [x] } P vr vp (.slice A' (s.q.length + 1) c') bl cs ∧ w.grownBy w' vq.ownBlock := by
  have hq := h.que
  obtain ⟨A', c', w', hr, ho, hg, hw⟩ := push_int 24 24 Try.underlying24 w base vq (nats s.q) hq (x : Int) (by rw [length_nats]; omega) hbw
  rw [length_nats] at hr ho hw
  have hne : ∀ k C e, w.heap[k]? = some (.cells C e (0, 0)) → vq.ownBlock ≠ some k → w'.heap[k]? = w.heap[k]? := fun k C e hC hn => hg.block k (Array.getElem?_eq_some_iff.1 hC).1 (Ne.symm hn)
  have hnewb : ∀ r, (Value.slice A' (s.q.length + 1) c').ownBlock = some r → vq.ownBlock = some r ∨ w.heap.size ≤ r := fun r hr => by
    rcases hw with hw | ⟨r', hr', hge⟩
    · exact .inl (by rw [← hw]; exact hr)
    · rw [hr] at hr'
      cases hr'
      exact .inr hge
  refine ⟨A', c', w', hr, ⟨owns_keep h.out fun k hk => ?_, fun i hi => ?_, h.inj, owns_keep h.par fun k hk => ?_, ?_, h.sepP, fun i hi e => ?_, fun r hr e => ?_, h.root.of_rep rfl rfl⟩, hg⟩
  · obtain ⟨-, C, hC⟩ := owns_block h.out k hk
    refine hne k C 24 hC fun e => ?_
    obtain ⟨-, C', hC'⟩ := owns_block hq k e
    rw [hC] at hC'
    cases hC'
  · obtain ⟨a, b, d⟩ := h.row i hi
    obtain ⟨C, hC, -⟩ := id b
    exact ⟨a, b.keep (hne _ C 3 hC (h.sepQ i hi)), d⟩
  · obtain ⟨-, C, hC⟩ := owns_block h.par k hk
    exact hne k C 3 hC (h.pq k hk)
  · show OwnI base w' _ (nats (s.q ++ [x]))
    rw [nats_app]
    exact ho
  · obtain ⟨-, b, -⟩ := h.row i hi
    rcases hnewb _ e with e | e
    · exact h.sepQ i hi e
    · exact absurd b.lt (by omega)
  · rcases hnewb _ e with e | e
    · exact h.pq r hr e
    · exact absurd (owns_lt h.par hr) (by omega)
end
end Go.Proofs
namespace Go.Proofs
open Go.RowKit Go.Shelf Go.Proofs.Ct Go.Maps
def holdsE (g : Int) (rels sub : List W) (t : Tb) : Bool × Int :=
  if presE g rels ≠ 0 then (false, presE g rels) else
  if (sub.any fun w => w.any (letBad g.toNat)) = true then (false, 2) else
  if (check g t).1 ≠ 0 then (false, (check g t).1) else (holdsB rels sub t, 0)
def HoldsPost (g : Int) (rels sub : List W) (t : Tb) (w : World) (e : Ending) (w' : World) : Prop :=
  e = .returned (.tuple #[.bool (holdsE g rels sub t).1, .int .i64 (holdsE g rels sub t).2]) ∧ Below w.heap.size w w'
theorem all_getD {p : W → Bool} {l : List W} : l.all p = true ↔ ∀ j, j < l.length → p (l.getD j []) = true := by
  rw [List.all_eq_true]
  constructor
  · intro h j hj
    rw [List.getD_eq_getElem?_getD, List.getElem?_eq_getElem hj]
    exact h _ (List.getElem_mem hj)
  · intro h x hx
    obtain ⟨c, hc, rfl⟩ := List.mem_iff_getElem.1 hx
    have := h c hc
    rwa [List.getD_eq_getElem?_getD, List.getElem?_eq_getElem hc] at this
theorem staysB_true {t : Tb} {r : Int} {l : List W} (h : ∀ j, j < l.length → leads t r (l.getD j []) = r) : staysB t r l = true := all_getD.2 fun j hj => by simpa using h j hj
theorem staysB_false {t : Tb} {r : Int} {l : List W} {j : Nat} (hj : j < l.length) (h : leads t r (l.getD j []) ≠ r) : staysB t r l = false := by
  rw [Bool.eq_false_iff]
  intro h'
  have := all_getD.1 h' j hj
  simp at this
  exact h (by simpa using this)
theorem holds_true {rels sub : List W} {t : Tb} (h1 : complete t = true) (h2 : ∀ j, j < sub.length → leads t 0 (sub.getD j []) = 0) (h3 : ∀ r, r < t.length → staysB t (r : Int) rels = true) : holdsB rels sub t = true := by
  unfold holdsB
  rw [h1, staysB_true h2]
  simp only [Bool.true_and, List.all_eq_true, List.mem_range]
  exact h3
theorem holds_sub {rels sub : List W} {t : Tb} {j : Nat} (hj : j < sub.length) (h : leads t 0 (sub.getD j []) ≠ 0) : holdsB rels sub t = false := by
  unfold holdsB
  rw [staysB_false hj h]
  simp
theorem holds_rel {rels sub : List W} {t : Tb} {r j : Nat} (hr : r < t.length) (hj : j < rels.length) (h : leads t r (rels.getD j []) ≠ r) : holdsB rels sub t = false := by
  unfold holdsB
  have : ((List.range t.length).all fun r => staysB t (r : Int) rels) = false := by
    rw [Bool.eq_false_iff]
    intro h'
    rw [List.all_eq_true] at h'
    have := h' r (by simpa using hr)
    rw [staysB_false hj h] at this
    cases this
  rw [this]
  simp
theorem holds_part {rels sub : List W} {t : Tb} (h : complete t = false) : holdsB rels sub t = false := by unfold holdsB; rw [h]; rfl
/-- the letters of a valid presentation -/
theorem presE_good {g : Int} {rels : List W} (h : presE g rels = 0) : ∃ gn : Nat, g = gn ∧ 1 ≤ gn ∧ gn ≤ 16 ∧ rels.length ≤ 100 ∧ ∀ j, j < rels.length → LetsOk gn (rels.getD j []) ∧ (rels.getD j []).length ≤ 4000 := by
  unfold presE at h
  by_cases h1 : g < 1 ∨ 16 < g
  · rw [if_pos h1] at h; omega
  · rw [if_neg h1] at h
    by_cases h2 : 100 < rels.length
    · rw [if_pos h2] at h; omega
    · rw [if_neg h2] at h
      have hz : ∀ j, j < rels.length → presBad g.toNat rels j = 0 := by
        cases hf : first (fun k => decide (presBad g.toNat rels k ≠ 0)) rels.length with
        | none => intro j hj; simpa using first_none' hf j hj
        | some k =>
          rw [hf] at h
          have h3 := (first_some' hf).2.1
          simp at h3
          exact absurd h h3
      refine ⟨g.toNat, by omega, by omega, by omega, by omega, fun j hj => ?_⟩
      have hb := hz j hj
      unfold presBad at hb
      by_cases h3 : 4000 < sumTo rels (j + 1)
      · rw [if_pos h3] at hb; omega
      · rw [if_neg h3] at hb
        refine ⟨letsOk_of ?_, ?_⟩
        · cases hx : (rels.getD j []).any (letBad g.toNat) with
          | false => rfl
          | true => rw [hx] at hb; simp at hb
        · rw [sumTo_succ] at h3; omega
theorem subs_good {g : Nat} {sub : List W} (h : (sub.any fun w => w.any (letBad g)) = false) : ∀ j, j < sub.length → LetsOk g (sub.getD j []) := fun j hj => letsOk_of (by
  rw [List.any_eq_false] at h
  have := h (sub.getD j []) (by rw [List.getD_eq_getElem?_getD, List.getElem?_eq_getElem hj]; exact List.getElem_mem hj)
  exact Bool.eq_false_iff.2 this)
theorem load40 {w : World} {b : Nat} {v0 v1 : Value} (hc : w.heap[b]? = some (.cells #[v0, v1] 40 (0, 0))) : (Instr.loadAt 40 (.pointer (some ⟨b, 0, none⟩))).run Try.prog w = .ok (.agg #[v0, v1]) w := by
  have hr : w.rangeAt b 0 [v0, v1] := fun j v hj => by rw [cell_of_row _ _ _ _ _ _ hc, Nat.zero_add]; simpa using hj
  exact run_loadAt_mid (P := Try.prog) w b 0 40 [v0, v1] _ hr Try.underlying40 rfl (by kernel_rfl)
theorem neg91_any (w : World) (B g : Nat) (u : Value) (ws : List Int) (hg : g ≤ 16) (hc : w.cell? ⟨B, 0, none⟩ = some (.int .i64 (g : Int))) (hu : IntsAt w u ws) :
    Calls Try.prog 91 #[u, .pointer (some ⟨B, 0, none⟩)] w fun e w' => e = .returned (.bool (ws.any (letBad g))) ∧ Below w.heap.size w w' := by
  have HC := Lib.hid (fine83_any w g u ws hg hu)
  obtain ⟨A, c, rfl, -, -, -⟩ := hu.open_
  clear hu
  generalize ws.any (letBad g) = b at *
  go_enter Try.func91, Try.ntmps91
  go_wp2_with (go_at_call 83; (refine HC.out.mono ?_); rintro e w' ⟨rfl, hb⟩; have HB := Lib.hid hb; clear hb)
  go_ret
  exact ⟨ret_bool (by simp), HB.out⟩
theorem eg91 : ∀ args w, (callFunc 91 args).run Try.prog w = .ok (.enter 91 args) w := enters_of Try.func91 (by kernel_rfl) rfl
theorem stay92 (w : World) (r : Int) (p : Value) : Calls Try.prog 92 #[.int .i64 r, p] w fun e w' => e = .returned (.func (.func 93) #[] #[p, .pointer (some ⟨w.heap.size, 0, none⟩)]) ∧ w' = w.alloc (.cells #[.int .i64 r] 3) := by
  go_enter Try.func92, Try.ntmps92
  go_wp2_with fail
  go_ret
  exact ⟨rfl, rfl⟩
set_option maxRecDepth 100000 in
theorem stay93 (w : World) (B R : Nat) (v u : Value) (g : Nat) (t : Tb) (r : Nat) (ws : List Int) (hB : w.cell? ⟨B, 0, none⟩ = some v) (hR : w.cell? ⟨R, 0, none⟩ = some (.int .i64 (r : Int))) (ht : Tab w v t) (hu : IntsAt w u ws) (hg : TGood g t) (hl : LetsOk g ws) (hr : r < t.length) :
    Calls Try.prog 93 #[u, .pointer (some ⟨B, 0, none⟩), .pointer (some ⟨R, 0, none⟩)] w fun e w' => e = .returned (.bool (decide (leads t r ws = (r : Int)))) ∧ Below w.heap.size w w' := by
  have HC := Lib.hid (trace94_any w v u g t r ws ht hu hg hl hr)
  have hbd := leadTo_bd hg hl (r := (r : Int)) (by omega) ws.length (Nat.le_refl _)
  have hbd' : -1 ≤ leads t r ws ∧ leads t r ws < t.length := hbd
  obtain ⟨A, c, rfl⟩ := Tab.form ht
  obtain ⟨Au, cu, rfl, -, -, -⟩ := hu.open_
  have hr0 : (0 : Int) ≤ (r : Int) := Int.natCast_nonneg _
  clear ht hu hg hl hbd
  generalize leads t r ws = l at *
  obtain ⟨l1, l2⟩ := hbd'
  unfold TracePost at HC
  by_cases h : l < 0
  · have HZ : Hid (decide (l = (r : Int)) = false) := Lib.hid (decide_eq_false (by omega))
    rw [if_pos h, decide_eq_false (by omega : ¬ 0 ≤ l)] at HC
    clear h
    generalize decide (l = (r : Int)) = b at *
    go_enter Try.func93, Try.ntmps93
    go_wp2_with (go_at_call 94; (refine HC.out.mono ?_); rintro e w' ⟨rfl, q, rfl⟩)
    go_ret
    exact ⟨ret_bool HZ.out.symm, below_drewN (Below.refl _ _) _⟩
  · rw [if_neg h, decide_eq_true (by omega : 0 ≤ l)] at HC
    by_cases h2 : l = (r : Int)
    · have HZ : Hid (decide (l = (r : Int)) = true) := Lib.hid (decide_eq_true h2)
      have d1 : (l == (r : Int)) = true := by simpa using h2
      clear h h2
      generalize decide (l = (r : Int)) = b at *
      go_enter Try.func93, Try.ntmps93
      go_wp2_with (go_at_call 94; (refine HC.out.mono ?_); rintro e w' ⟨rfl, q, rfl⟩)
      go_ret
      exact ⟨ret_bool HZ.out.symm, below_drewN (Below.refl _ _) _⟩
    · have HZ : Hid (decide (l = (r : Int)) = false) := Lib.hid (decide_eq_false h2)
      have d1 : (l == (r : Int)) = false := by simpa using h2
      clear h h2
      generalize decide (l = (r : Int)) = b at *
      go_enter Try.func93, Try.ntmps93
      go_wp2_with (go_at_call 94; (refine HC.out.mono ?_); rintro e w' ⟨rfl, q, rfl⟩)
      go_ret
      exact ⟨ret_bool HZ.out.symm, below_drewN (Below.refl _ _) _⟩
end Go.Proofs
