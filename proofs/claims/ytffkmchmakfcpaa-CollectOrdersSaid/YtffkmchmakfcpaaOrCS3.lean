/- Tables that are full, maps between them, and the standard table as a table with other numbers; Universality, plainly: an enumeration's state maps onto whatever satisfies its relators; Coset tables, plainly: what an enumeration's table is; maps between tables; how many cosets lie over one; How many cosets live at most, plainly; Parents and their roots, plainly. -/
import Derived.Test.YtffkmchmakfcpaaOrCS2
namespace Go.Proofs.Ct
/-- complete, closed, all reached from 0 -/
structure Full (g : Nat) (t : Tb) : Prop where
  good : TGood g t
  pos : ∀ r, r < t.length → ∀ c, c < 2 * g → 0 ≤ t.at r c
  conn : ∀ x, x < t.length → Reach g t 0 x
/-- a map of tables -/
structure Hm (g : Nat) (t u : Tb) (φ : Nat → Nat) : Prop where
  lt : ∀ x, x < t.length → φ x < u.length
  edge : ∀ x c y, x < t.length → c < 2 * g → Edge t x c y → Edge u (φ x) c (φ y)
section
variable {g : Nat} {t u : Tb} {φ : Nat → Nat}
theorem Full.edge (h : Full g t) {x c : Nat} (hx : x < t.length) (hc : c < 2 * g) : ∃ y, y < t.length ∧ Edge t x c y := by
  have h1 := h.good.bd x hx c hc
  have h2 := h.pos x hx c hc
  exact ⟨(t.at x c).toNat, by omega, by unfold Edge; omega⟩
theorem TGood.elt (h : TGood g t) {x c y : Nat} (hx : x < t.length) (hc : c < 2 * g) (he : Edge t x c y) : y < t.length := by
  have h1 := h.bd x hx c hc
  unfold Edge at he
  omega
theorem TGood.eback (h : TGood g t) {x c y : Nat} (hx : x < t.length) (hc : c < 2 * g) (he : Edge t x c y) : Edge t y (flp c) x := by
  unfold Edge at he ⊢
  have h1 := h.back x hx c hc (by omega)
  rw [he, Int.toNat_natCast] at h1
  exact h1
theorem Hm.way (h : Hm g t u φ) (ht : TGood g t) : ∀ {w : W} {x y : Nat}, LOk g w → x < t.length → Way t x w y → Way u (φ x) w (φ y) := by
  intro w
  induction w with
  | nil => intro x y _ _ e; have e : x = y := e; rw [e]; exact rfl
  | cons l w ih =>
    rintro x y hw hx ⟨z, h1, h2⟩
    exact ⟨_, h.edge _ _ _ hx (col_ltL hw.cons.1) h1, ih hw.cons.2 (ht.elt hx (col_ltL hw.cons.1) h1) h2⟩
theorem row_ext {a b : List Int} {n : Nat} (ha : a.length = n) (hb : b.length = n) (h : ∀ c, c < n → a.getD c 0 = b.getD c 0) : a = b := by
  apply List.ext_getElem
  · omega
  · intro i h1 h2
    have := h i (by omega)
    simpa [List.getD_eq_getElem?_getD, h1, h2] using this
def mp (φ : Nat → Nat) (x : Int) : Int := ((φ x.toNat : Nat) : Int)
theorem Hm.row (h : Hm g t u φ) (ht : TGood g t) (hu : TGood g u) (hp : ∀ r, r < t.length → ∀ c, c < 2 * g → 0 ≤ t.at r c) {r : Nat} (hr : r < t.length) : u.row (φ r) = (t.row r).map (mp φ) := by
  refine row_ext (n := 2 * g) (hu.len _ (h.lt r hr)) (by rw [List.length_map]; exact ht.len r hr) fun c hc => ?_
  have h1 := hp r hr c hc
  have h2 := h.edge r c (t.at r c).toNat hr hc (by unfold Edge; omega)
  have h3 : (u.row (φ r)).getD c 0 = ((φ (t.at r c).toNat : Nat) : Int) := h2
  have h4 : c < (t.row r).length := by rw [ht.len r hr]; exact hc
  have h5 : ∀ (l : List Int) (f : Int → Int), c < l.length → f (l.getD c 0) = (l.map f).getD c 0 := fun l f hl => by
    simp [List.getD_eq_getElem?_getD, hl]
  rw [h3, ← h5 (t.row r) (mp φ) h4]
  rfl
theorem visit_map {n : Nat} (hinj : ∀ x y, x < n → y < n → φ x = φ y → x = y) {l : List Int} (hl : Cos n l) {s : Int} (h0 : 0 ≤ s) (hs : s < n) : visit (l.map (mp φ)) (mp φ s) = (visit l s).map (mp φ) := by
  have hm : mp φ s ∈ l.map (mp φ) ↔ s ∈ l := by
    constructor
    · intro h
      obtain ⟨x, hx, he⟩ := List.mem_map.1 h
      have hb := hl.bd x hx
      unfold mp at he
      have := hinj x.toNat s.toNat (by omega) (by omega) (by omega)
      have e : x = s := by omega
      rwa [e] at hx
    · exact fun h => List.mem_map_of_mem h
  have h1 : (mp φ s < 0) = False := by unfold mp; simp
  unfold visit
  by_cases hc : s ∈ l
  · rw [if_pos (by simp [hm.2 hc]), if_pos (by simp [hc])]
  · rw [if_neg (by simp only [Bool.or_eq_true, decide_eq_true_eq, List.contains_iff_mem, hm, h1]; simp [hc]), if_neg (by simp [hc]; omega)]
    simp
theorem visitTo_map {n : Nat} (hinj : ∀ x y, x < n → y < n → φ x = φ y → x = y) {row row' : List Int} (hr : ∀ c, c < row.length → 0 ≤ row.getD c 0 ∧ row.getD c 0 < n) (he : row' = row.map (mp φ)) {l : List Int} (hl : Cos n l) : ∀ c, c ≤ row.length → visitTo row' c (l.map (mp φ)) = (visitTo row c l).map (mp φ)
  | 0, _ => rfl
  | c + 1, hc => by
    have ih := visitTo_map hinj hr he hl c (by omega)
    have hC : Cos n (visitTo row c l) := hl.visitTo (fun c hc => (hr c hc).2) (by omega)
    show visit (visitTo row' c (l.map (mp φ))) (row'.getD c 0) = (visit (visitTo row c l) (row.getD c 0)).map (mp φ)
    have hx := hr c (by omega)
    have h5 : row'.getD c 0 = mp φ (row.getD c 0) := by
      rw [he]
      simp [List.getD_eq_getElem?_getD, show c < row.length by omega]
    rw [ih, h5]
    exact visit_map hinj hC hx.1 hx.2
theorem ordTo_map (h : Hm g t u φ) (ht : TGood g t) (hu : TGood g u) (hp : ∀ r, r < t.length → ∀ c, c < 2 * g → 0 ≤ t.at r c) (hinj : ∀ x y, x < t.length → y < t.length → φ x = φ y → x = y) {b : Nat} (hb : b < t.length) : ∀ k, ordTo u (φ b : Int) k = (ordTo t (b : Int) k).map (mp φ)
  | 0 => by simp [ordTo, mp]
  | k + 1 => by
    have ih := ordTo_map h ht hu hp hinj hb k
    have hC : Cos t.length (ordTo t (b : Int) k) := Cos.ordTo ht (by omega) (by omega) k
    rw [ordTo, ordTo, ih, List.length_map]
    by_cases hk : k < (ordTo t (b : Int) k).length
    · rw [if_pos hk, if_pos hk]
      have hx := hC.get hk
      have h5 : ((ordTo t (b : Int) k).map (mp φ)).getD k 0 = mp φ ((ordTo t (b : Int) k).getD k 0) := by simp [List.getD_eq_getElem?_getD, hk]
      rw [h5]
      generalize (ordTo t (b : Int) k).getD k 0 = x at *
      have hxn : x.toNat < t.length := by omega
      have hrow := h.row ht hu hp hxn
      have h6 : (mp φ x).toNat = φ x.toNat := by unfold mp; omega
      rw [h6, hrow, List.length_map]
      exact visitTo_map hinj (fun c hc => by rw [ht.len _ hxn] at hc; exact ⟨hp _ hxn c hc, (ht.bd _ hxn c hc).2⟩) rfl hC _ (Nat.le_refl _)
    · rw [if_neg hk, if_neg hk]
theorem idxOf_map_inj {f : Int → Int} {x : Int} : ∀ {o : List Int}, (∀ y ∈ o, f y = f x → y = x) → (o.map f).idxOf (f x) = o.idxOf x
  | [], _ => rfl
  | y :: o, h => by
    rw [List.map_cons, List.idxOf_cons, List.idxOf_cons, idxOf_map_inj fun z hz => h z (List.mem_cons_of_mem _ hz)]
    by_cases e : y = x
    · subst e; simp
    · have : f y ≠ f x := fun h' => e (h y (List.mem_cons_self ..) h')
      rw [show (y == x) = false by simpa using e, show (f y == f x) = false by simpa using this]
theorem neg_of_pos (ht : TGood g t) (hp : ∀ r, r < t.length → ∀ c, c < 2 * g → 0 ≤ t.at r c) : t.any neg = false := neg_false fun r hr c hc => hp r hr c (by rw [ht.len r hr] at hc; exact hc)
/-- a table with other numbers has the same standard table -/
theorem std_map (h : Hm g t u φ) (ht : TGood g t) (hu : TGood g u) (hp : ∀ r, r < t.length → ∀ c, c < 2 * g → 0 ≤ t.at r c) (hq : ∀ r, r < u.length → ∀ c, c < 2 * g → 0 ≤ u.at r c) (hinj : ∀ x y, x < t.length → y < t.length → φ x = φ y → x = y) (hl : t.length = u.length) {b : Nat} (hb : b < t.length) : std u (φ b : Int) = std t (b : Int) := by
  have ho : ord u (φ b : Int) = (ord t (b : Int)).map (mp φ) := by
    unfold ord
    rw [← hl]
    exact ordTo_map h ht hu hp hinj hb _
  have hC : Cos t.length (ord t (b : Int)) := Cos.ordTo ht (by omega) (by omega) _
  unfold std
  rw [ho, List.length_map, neg_of_pos ht hp, neg_of_pos hu hq, ← hl]
  by_cases hf : (ord t (b : Int)).length = t.length
  · rw [if_pos ⟨hf, rfl⟩, if_pos ⟨hf, rfl⟩, List.map_map]
    congr 1
    refine List.map_congr_left fun x hx => ?_
    have hbx := hC.bd x hx
    have hxn : x.toNat < t.length := by omega
    show (u.row (mp φ x).toNat).map _ = _
    rw [show (mp φ x).toNat = φ x.toNat by unfold mp; omega, h.row ht hu hp hxn, List.map_map]
    refine List.map_congr_left fun y hy => ?_
    show numOf _ (mp φ y) = numOf _ y
    obtain ⟨c, hc, rfl⟩ := List.mem_iff_getElem.1 hy
    have hc' : c < 2 * g := by rw [← ht.len _ hxn]; exact hc
    have e : (t.row x.toNat)[c] = t.at x.toNat c := by unfold Tb.at; simp [List.getD_eq_getElem?_getD, hc]
    rw [e]
    have h1 := hp _ hxn c hc'
    have h2 := (ht.bd _ hxn c hc').2
    unfold numOf
    congr 1
    refine idxOf_map_inj fun z hz he => ?_
    have hbz := hC.bd z hz
    unfold mp at he
    have := hinj z.toNat (t.at x.toNat c).toNat (by omega) (by omega) (by omega)
    omega
  · rw [if_neg (fun h' => hf h'.1), if_neg (fun h' => hf h'.1)]
/-- a full table's order, number by number -/
structure Num (t : Tb) (o : List Int) : Prop where
  len : o.length = t.length
  cos : Cos t.length o
theorem idxOf_get {o : List Int} (hn : o.Nodup) {j : Nat} (hj : j < o.length) : o.idxOf (o.getD j 0) = j := by
  rw [List.getD_eq_getElem?_getD, List.getElem?_eq_getElem hj]
  exact hn.idxOf_getElem j hj
theorem Num.at_ {o : List Int} (h : Num t o) {j : Nat} (hj : j < t.length) : ∃ x, x < t.length ∧ o.getD j 0 = (x : Int) ∧ o.idxOf (x : Int) = j := by
  have h1 := h.cos.get (k := j) (by rw [h.len]; exact hj)
  refine ⟨(o.getD j 0).toNat, by omega, by omega, ?_⟩
  rw [show (((o.getD j 0).toNat : Nat) : Int) = o.getD j 0 by omega]
  exact idxOf_get h.cos.nd (by rw [h.len]; exact hj)
theorem Num.of {o : List Int} (h : Num t o) {x : Nat} (hx : x < t.length) : o.idxOf (x : Int) < t.length ∧ o.getD (o.idxOf (x : Int)) 0 = (x : Int) := by
  have hm := mem_of_full h.cos h.len x hx
  have h1 := List.idxOf_lt_length_of_mem hm
  refine ⟨by rw [← h.len]; exact h1, ?_⟩
  rw [List.getD_eq_getElem?_getD, List.getElem?_eq_getElem h1]
  simp
theorem Full.num (h : Full g t) {b : Nat} (hb : b < t.length) (hr : ∀ x, x < t.length → Reach g t b x) : Num t (ord t (b : Int)) := by
  have hC : Cos t.length (ord t (b : Int)) := Cos.ordTo h.good (by omega) (by omega) t.length
  refine ⟨?_, hC⟩
  refine Nat.le_antisymm (length_le_of_nodup hC) (ge_of_all _ _ fun r hr' => ?_)
  have hin : ∀ x, Reach g t b x → x < t.length ∧ (x : Int) ∈ ord t (b : Int) := fun x hx => by
    induction hx with
    | refl => exact ⟨hb, (ordTo_mono t (b : Int) (Nat.zero_le t.length)).subset (by simp [ordTo])⟩
    | @step y z c _ hc he ih =>
      obtain ⟨h1, h2⟩ := ih
      exact ⟨h.good.elt h1 hc he, by
        obtain ⟨j, hj, he'⟩ := List.mem_iff_getElem.1 h2
        have hle := length_le_of_nodup hC
        have hjl : j < t.length := Nat.lt_of_lt_of_le hj hle
        have hlt : j < (ordTo t (b : Int) j).length := by
          rcases Nat.lt_or_ge j (ordTo t (b : Int) j).length with h3 | h3
          · exact h3
          · have := ordTo_stable t (b : Int) h3 (by omega : j ≤ t.length)
            unfold ord at hj
            rw [this] at hj
            omega
        have hget : (ordTo t (b : Int) j).getD j 0 = (y : Int) := by
          rw [← pre_get (ordTo_mono t (b : Int) (by omega : j ≤ t.length)) hlt]
          unfold ord at he' hj
          rw [List.getD_eq_getElem?_getD, List.getElem?_eq_getElem hj]
          simpa using he'
        have hstep : ordTo t (b : Int) (j + 1) = visitTo (t.row y) (t.row y).length (ordTo t (b : Int) j) := by
          rw [ordTo, if_pos hlt, hget, Int.toNat_natCast]
        have hp := h.pos y h1 c hc
        have hmem : t.at y c ∈ ordTo t (b : Int) (j + 1) := by
          rw [hstep]
          exact mem_visitTo (by rw [h.good.len y h1]; exact hc) hp _
        have := (ordTo_mono t (b : Int) (by omega : j + 1 ≤ t.length)).subset hmem
        rwa [show t.at y c = (z : Int) from he] at this⟩
  exact (hin r (hr r hr')).2
theorem Reach.hm (h : Hm g t u φ) (ht : TGood g t) {x y : Nat} (hx : x < t.length) (hr : Reach g t x y) : y < t.length ∧ Reach g u (φ x) (φ y) := by
  induction hr with
  | refl => exact ⟨hx, .refl _⟩
  | step _ hc he ih =>
    obtain ⟨h1, h2⟩ := ih
    exact ⟨ht.elt h1 hc he, .step h2 hc (h.edge _ _ _ h1 hc he)⟩
theorem Reach.trans {x y z : Nat} (h1 : Reach g t x y) (h2 : Reach g t y z) : Reach g t x z := by
  induction h2 with
  | refl => exact h1
  | step _ hc he ih => exact .step ih hc he
theorem Reach.symm (ht : TGood g t) {x y : Nat} (hx : x < t.length) (h : Reach g t x y) : y < t.length ∧ Reach g t y x := by
  induction h with
  | refl => exact ⟨hx, .refl _⟩
  | step _ hc he ih =>
    obtain ⟨h1, h2⟩ := ih
    exact ⟨ht.elt h1 hc he, (Reach.step (.refl _) (flp_lt2 hc) (ht.eback h1 hc he)).trans h2⟩
theorem Full.reach (h : Full g t) {x y : Nat} (hx : x < t.length) (hy : y < t.length) : Reach g t x y :=
  (Reach.symm h.good h.good.n1 (h.conn x hx)).2.trans (h.conn y hy)
/-- the standard table of a full table -/
def stdT (t : Tb) (b : Nat) : Tb := outTo (ord t (b : Int)) t t.length
theorem length_stdT (t : Tb) (b : Nat) : (stdT t b).length = t.length := length_outTo _ _ _
theorem row_stdT (t : Tb) (b : Nat) {j : Nat} (hj : j < t.length) : (stdT t b).row j = (t.row ((ord t (b : Int)).getD j 0).toNat).map (numOf (ord t (b : Int))) := by
  unfold stdT outTo Tb.row
  simp [List.getD_eq_getElem?_getD, hj]
structure StdOf (g : Nat) (t : Tb) (b : Nat) (u : Tb) : Prop where
  is : std t (b : Int) = some u
  len : u.length = t.length
  full : Full g u
  std : std u 0 = some u
  there : ∃ φ, Hm g t u φ ∧ φ b = 0 ∧ (∀ x y, x < t.length → y < t.length → φ x = φ y → x = y)
  back : ∃ ψ, Hm g u t ψ ∧ ψ 0 = b ∧ (∀ x y, x < u.length → y < u.length → ψ x = ψ y → x = y)
theorem Full.std_of (h : Full g t) {b : Nat} (hb : b < t.length) : StdOf g t b (stdT t b) := by
  have hN := h.num hb (fun x hx => h.reach hb hx)
  have hl := length_stdT t b
  have hrow : ∀ (j x : Nat), j < t.length → (ord t (b : Int)).getD j 0 = (x : Int) → x < t.length → ∀ c y, c < 2 * g → Edge t x c y → Edge (stdT t b) j c ((ord t (b : Int)).idxOf (y : Int)) := fun j x hj he hx c y hc hy => by
    unfold Edge Tb.at
    rw [row_stdT t b hj, he, Int.toNat_natCast]
    have h1 : c < (t.row x).length := by rw [h.good.len x hx]; exact hc
    have h2 : ((t.row x).map (numOf (ord t (b : Int)))).getD c 0 = numOf (ord t (b : Int)) (t.at x c) := by
      unfold Tb.at
      simp [List.getD_eq_getElem?_getD, h1]
    rw [h2, show t.at x c = (y : Int) from hy]
    rfl
  have hlen : ∀ r, r < t.length → ((stdT t b).row r).length = 2 * g := fun r hr => by
    obtain ⟨x, hx, h1, -⟩ := hN.at_ hr
    rw [row_stdT t b hr, List.length_map, h1, Int.toNat_natCast, h.good.len x hx]
  have hat : ∀ j, j < t.length → ∀ c, c < 2 * g → ∃ x y, x < t.length ∧ y < t.length ∧ Edge t x c y ∧ (ord t (b : Int)).idxOf (x : Int) = j ∧ Edge (stdT t b) j c ((ord t (b : Int)).idxOf (y : Int)) := fun j hj c hc => by
    obtain ⟨x, hx, h1, h2⟩ := hN.at_ hj
    obtain ⟨y, hy, he⟩ := h.edge hx hc
    exact ⟨x, y, hx, hy, he, h2, hrow j x hj h1 hx c y hc he⟩
  have hg : TGood g (stdT t b) := by
    refine ⟨h.good.g1, h.good.g16, by rw [hl]; exact h.good.n1, by rw [hl]; exact h.good.n2, fun r hr => hlen r (by omega), fun r hr c hc => ?_, fun r hr c hc _ => ?_⟩
    · rw [hl] at hr ⊢
      obtain ⟨x, y, hx, hy, he, h2, h3⟩ := hat r hr c hc
      have := (hN.of hy).1
      unfold Edge at h3
      omega
    · rw [hl] at hr
      obtain ⟨x, y, hx, hy, he, h2, h3⟩ := hat r hr c hc
      have h4 := hrow _ y (hN.of hy).1 (hN.of hy).2 hy (flp c) x (flp_lt2 hc) (h.good.eback hx hc he)
      rw [h2] at h4
      unfold Edge at h3 h4
      rw [h3, Int.toNat_natCast, h4]
  have hp : ∀ r, r < (stdT t b).length → ∀ c, c < 2 * g → 0 ≤ (stdT t b).at r c := fun r hr c hc => by
    rw [hl] at hr
    obtain ⟨x, y, hx, hy, he, h2, h3⟩ := hat r hr c hc
    unfold Edge at h3
    omega
  have hto : Hm g t (stdT t b) (fun x => (ord t (b : Int)).idxOf (x : Int)) := ⟨fun x hx => by rw [hl]; exact (hN.of hx).1, fun x c y hx hc he => hrow _ x (hN.of hx).1 (hN.of hx).2 hx c y hc he⟩
  have hinj : ∀ x y, x < t.length → y < t.length → (ord t (b : Int)).idxOf (x : Int) = (ord t (b : Int)).idxOf (y : Int) → x = y := fun x y hx hy e => by
    have h1 := (hN.of hx).2
    rw [e, (hN.of hy).2] at h1
    omega
  have hb0 : (ord t (b : Int)).idxOf (b : Int) = 0 := by
    have h1 : [(b : Int)] <+: ord t (b : Int) := ordTo_mono t (b : Int) (Nat.zero_le t.length)
    have h2 := idxOf_pre h1 (List.mem_singleton.2 rfl)
    unfold numOf at h2
    simp at h2
    exact h2
  have hstd : Ct.std t (b : Int) = some (stdT t b) := std_full h.good (by omega) (by omega) hN.len fun j hj c hc => by
    obtain ⟨x, hx, h1, -⟩ := hN.at_ hj
    rw [h1, Int.toNat_natCast] at hc ⊢
    rw [h.good.len x hx] at hc
    exact h.pos x hx c hc
  have hback : Hm g (stdT t b) t (fun j => ((ord t (b : Int)).getD j 0).toNat) := ⟨fun j hj => by
      rw [hl] at hj
      obtain ⟨x, hx, h1, -⟩ := hN.at_ hj
      rw [h1, Int.toNat_natCast]; exact hx, fun j c k hj hc he => by
      rw [hl] at hj
      obtain ⟨x, hx, h1, h2⟩ := hN.at_ hj
      obtain ⟨y, hy, h3⟩ := h.edge hx hc
      have h4 := hrow j x hj h1 hx c y hc h3
      have h5 : k = (ord t (b : Int)).idxOf (y : Int) := by unfold Edge at he h4; omega
      show Edge t ((ord t (b : Int)).getD j 0).toNat c ((ord t (b : Int)).getD k 0).toNat
      rw [h1, h5, (hN.of hy).2, Int.toNat_natCast, Int.toNat_natCast]
      exact h3⟩
  refine ⟨hstd, hl, ⟨hg, hp, fun x hx => ?_⟩, ?_, ⟨_, hto, hb0, hinj⟩, ⟨_, hback, ?_, ?_⟩⟩
  · rw [hl] at hx
    obtain ⟨y, hy, -, h2⟩ := hN.at_ hx
    have h3 := (Reach.hm hto h.good hb (h.reach hb hy)).2
    rw [hb0, h2] at h3
    exact h3
  · have := std_map hto h.good hg h.pos hp hinj hl.symm hb
    rw [hb0] at this
    rw [show ((0 : Nat) : Int) = 0 from rfl] at this
    rw [this]
    exact hstd
  · have h1 := (hN.of hb).2
    rw [hb0] at h1
    rw [h1]; rfl
  · intro x y hx hy e
    rw [hl] at hx hy
    obtain ⟨x', hx', h1, h2⟩ := hN.at_ hx
    obtain ⟨y', hy', h3, h4⟩ := hN.at_ hy
    rw [h1, h3, Int.toNat_natCast, Int.toNat_natCast] at e
    rw [← h2, ← h4, e]
end
end Go.Proofs.Ct
namespace Go.Proofs.Ct
def actW {α : Type} (act : α → Nat → α) : α → W → α
  | p, [] => p
  | p, l :: w => actW act (act p (col l)) w
/-- points on which letters act, in which the relators are closed -/
structure Mdl (g : Nat) (rels : List W) {α : Type} (D : α → Prop) (act : α → Nat → α) : Prop where
  cl : ∀ p c, D p → c < 2 * g → D (act p c)
  inv : ∀ p c, D p → c < 2 * g → act (act p c) (flp c) = p
  rel : ∀ p i, D p → i < rels.length → actW act p (rels.getD i []) = p
/-- a map of the cosets to the points -/
structure Mp (g : Nat) {α : Type} (D : α → Prop) (act : α → Nat → α) (s : St) (f : Nat → α) : Prop where
  dom : ∀ x, x < s.t.length → D (f x)
  rp : ∀ x, x < s.t.length → f (s.rp x) = f x
  edge : ∀ x c y, x < s.t.length → c < 2 * g → Edge s.t x c y → act (f x) c = f y
section
variable {α : Type} {g lim : Nat} {rels sub : List W} {D : α → Prop} {act : α → Nat → α} {s : St} {f : Nat → α}
theorem actW_app {u v : W} : ∀ {p : α}, actW act p (u ++ v) = actW act (actW act p u) v := by
  induction u with
  | nil => intro p; rfl
  | cons l u ih => intro p; exact ih
theorem Mdl.invW (h : Mdl g rels D act) : ∀ {w : W} {p : α}, LOk g w → D p → actW act (actW act p w) (Ct.inv w) = p := by
  intro w
  induction w with
  | nil => intro p _ _; rfl
  | cons l w ih =>
    intro p hw hp
    have hc := col_ltL hw.cons.1
    rw [inv_cons, actW_app]
    show actW act (actW act (actW act (act p (col l)) w) (Ct.inv w)) [-l] = p
    rw [ih hw.cons.2 (h.cl _ _ hp hc)]
    show act (act p (col l)) (col (-l)) = p
    rw [col_inv hw.cons.1.2.2]
    exact h.inv p _ hp hc
theorem Mp.merge (h : Mp g D act s f) (hI : Inv g s) {a b : Nat} (ha : a < s.t.length) (hb : b < s.t.length) (e : f a = f b) : Mp g D act (mergeS s a b) f := by
  have ht := t_merge s a b
  refine ⟨by rw [ht]; exact h.dom, fun x hx => ?_, by rw [ht]; exact h.edge⟩
  rw [ht] at hx
  rw [rp_merge hI ha hb hx]
  have h1 := h.rp x hx
  have h2 := h.rp a ha
  have h3 := h.rp b hb
  split
  · rename_i e2
    rw [e2] at h1
    rcases Nat.le_total (s.rp a) (s.rp b) with h' | h'
    · rw [Nat.min_eq_left h']
      rw [Nat.max_eq_right h'] at h1
      rw [h2, e, ← h3, h1]
    · rw [Nat.min_eq_right h']
      rw [Nat.max_eq_left h'] at h1
      rw [h3, ← e, ← h2, h1]
  · exact h1
theorem Mp.step (_hM : Mdl g rels D act) (h : Mp g D act s f) (hI : Inv g s) {e c : Nat} (he : e < s.t.length) (hc : c < 2 * g) : Mp g D act (stepS e c s) f := by
  unfold stepS
  by_cases hd : s.t.at e c < 0
  · rw [if_pos hd]; exact h
  · rw [if_neg hd]
    have hd' : 0 ≤ s.t.at e c := by omega
    obtain ⟨d, hdd⟩ := Int.eq_ofNat_of_zero_le hd'
    have hE : Edge s.t e c d := hdd
    have hdn := hE.lt hI he hc
    have hcut := hI.cut he hc hd'
    have hat := at_cut hI he hc hd'
    have hlen := length_cut s.t e c
    have hun := hI.rlt he
    have hvn := hI.rlt hdn
    have hf := flp_lt2 hc
    rw [hdd, Int.toNat_natCast] at hat ⊢
    have hM1 : Mp g D act { s with t := cutT s.t e c } f := ⟨fun x hx => h.dom x (by simpa [hlen] using hx), fun x hx => h.rp x (by simpa [hlen] using hx), fun x k y hx hk hy => by
      simp only [hlen] at hx
      unfold Edge at hy
      simp only at hy
      rw [hat] at hy
      split at hy
      · omega
      · exact h.edge x k y hx hk hy⟩
    have hfe := h.edge e c d he hc hE
    have hfb := h.edge d (flp c) e hdn hf (hE.back hI he hc)
    have hre := h.rp e he
    have hrd := h.rp d hdn
    generalize hs1 : ({ s with t := cutT s.t e c } : St) = s1 at *
    have ht1 : s1.t = cutT s.t e c := by rw [← hs1]
    have hn1 : s1.t.length = s.t.length := by rw [ht1, hlen]
    rw [← ht1] at hat ⊢
    by_cases h1 : 0 ≤ s1.t.at (s.rp e) c
    · rw [if_pos h1]
      obtain ⟨w, hw⟩ := Int.eq_ofNat_of_zero_le h1
      have hE1 : Edge s1.t (s.rp e) c w := hw
      have hwn : w < s1.t.length := hE1.lt hcut (by rw [hn1]; exact hun) hc
      have h2 := hM1.edge _ c w (by rw [hn1]; exact hun) hc hE1
      rw [hw, Int.toNat_natCast]
      exact hM1.merge hcut hwn (by rw [hn1]; exact hvn) (by rw [← h2, hre, hfe, hrd])
    · rw [if_neg h1]
      by_cases h2 : 0 ≤ s1.t.at (s.rp d) (flp c)
      · rw [if_pos h2]
        obtain ⟨w, hw⟩ := Int.eq_ofNat_of_zero_le h2
        have hE1 : Edge s1.t (s.rp d) (flp c) w := hw
        have hwn : w < s1.t.length := hE1.lt hcut (by rw [hn1]; exact hvn) hf
        have h3 := hM1.edge _ (flp c) w (by rw [hn1]; exact hvn) hf hE1
        rw [hw, Int.toNat_natCast]
        exact hM1.merge hcut hwn (by rw [hn1]; exact hun) (by rw [← h3, hrd, hfb, hre])
      · rw [if_neg h2]
        have haj := at_join hcut (u := s.rp e) (v := s.rp d) (c := c) (by omega) (by omega) hc
        have hlj := length_join s1.t (s.rp e) c (s.rp d)
        refine ⟨fun x hx => h.dom x (by simp only [hlj] at hx; omega), fun x hx => h.rp x (by simp only [hlj] at hx; omega), fun x k y hx hk hy => ?_⟩
        simp only [hlj] at hx
        unfold Edge at hy
        simp only at hy
        rw [haj] at hy
        split at hy
        · rename_i e1
          have : y = s.rp e := by omega
          rw [this, e1.1, e1.2, hrd, hre]
          exact hfb
        · split at hy
          · rename_i e1
            have : y = s.rp d := by omega
            rw [this, e1.1, e1.2, hrd, hre]
            exact hfe
          · exact hM1.edge x k y hx hk hy
theorem proc_mp (hM : Mdl g rels D act) (h : Mp g D act s f) (hI : Inv g s) {k : Nat} (hq : QI g k 0 s) (hk : k < s.q.length) : ∀ c, c ≤ 2 * g → Mp g D act (procTo (s.q.getD k 0) c s) f
  | 0, _ => h
  | c + 1, hc => by
    have ih := proc_mp hM h hI hq hk c (by omega)
    obtain ⟨h1, h2, h3, h4, h5, h6⟩ := proc_q hI hq hk c (by omega)
    have hlt : s.q.getD k 0 < (procTo (s.q.getD k 0) c s).t.length := by rw [h2.n]; exact (hq.qd k hk).1
    exact ih.step hM h1 hlt (by omega)
theorem coinTo_mp (hM : Mdl g rels D act) (h : Mp g D act s f) (hI : Inv g s) (hq : QI g 0 0 s) : ∀ k, Mp g D act (coinTo (2 * g) k s) f
  | 0 => h
  | k + 1 => by
    have ih := coinTo_mp hM h hI hq k
    obtain ⟨h1, h2, h3, h4⟩ := coinTo_inv hI hq k
    unfold coinTo at h1 h2 h3 h4 ih ⊢
    rw [foldTo]
    generalize foldTo (fun k s => if k < s.q.length then procTo (s.q.getD k 0) (2 * g) s else s) k s = s1 at *
    by_cases hk : k < s1.q.length
    · rw [if_pos hk]
      rw [show min k s1.q.length = k by omega] at h3
      exact proc_mp hM ih h1 h3 hk (2 * g) (Nat.le_refl _)
    · rw [if_neg hk]; exact ih
theorem Mp.coin (hM : Mdl g rels D act) (h : Mp g D act s f) (hR : Rest g s) {a b : Nat} (ha : a < s.t.length) (hb : b < s.t.length) (e : f a = f b) : Mp g D act (coinS (2 * g) s a b) f := by
  have h0 : Inv g { s with q := [] } := ⟨hR.inv.len, hR.inv.bd, hR.inv.rl, hR.inv.rle, hR.inv.rid, hR.inv.back⟩
  have hq0 : QI g 0 0 { s with q := [] } := ⟨fun x hx hd c hc h0 => absurd h0 (by have := hR.dead x hx hd c hc; simp only at h0; omega), fun j hj => absurd hj (by simp), Nat.zero_le _, hR.lv⟩
  have hm := h0.merge (a := a) (b := b) ha hb
  have hqm := hq0.merge h0 (.inr ⟨rfl, rfl⟩) (a := a) (b := b) ha hb
  have hf : Mp g D act { s with q := [] } f := ⟨h.dom, h.rp, h.edge⟩
  exact coinTo_mp hM (hf.merge h0 ha hb e) hm hqm s.t.length
theorem Mp.way (h : Mp g D act s f) (hI : Inv g s) : ∀ {w : W} {x y : Nat}, LOk g w → x < s.t.length → Way s.t x w y → actW act (f x) w = f y := by
  intro w
  induction w with
  | nil => intro x y _ _ e; have e : x = y := e; rw [e]; rfl
  | cons l w ih =>
    rintro x y hw hx ⟨z, h1, h2⟩
    have hz := h1.lt hI hx (col_ltL hw.cons.1)
    show actW act (act (f x) (col l)) w = f y
    rw [h.edge _ _ _ hx (col_ltL hw.cons.1) h1]
    exact ih hw.cons.2 hz h2
theorem Mp.join (hM : Mdl g rels D act) (h : Mp g D act s f) (hI : Inv g s) {u v c : Nat} (hu : u < s.t.length) (hv : v < s.t.length) (hc : c < 2 * g) (e : act (f u) c = f v) : Mp g D act (joinS s u c v) f := by
  have haj := at_join hI hu hv hc
  have hlj := length_joinS (s := s) u c v
  refine ⟨fun x hx => h.dom x (by omega), fun x hx => h.rp x (by omega), fun x k y hx hk hy => ?_⟩
  rw [hlj] at hx
  have hy' : (joinT s.t u c v).at x k = (y : Int) := hy
  rw [haj] at hy'
  split at hy'
  · rename_i e1
    have : y = u := by omega
    rw [this, e1.1, e1.2, ← e]
    exact hM.inv _ _ (h.dom u hu) hc
  · split at hy'
    · rename_i e1
      have : y = v := by omega
      rw [this, e1.1, e1.2]
      exact e
    · exact h.edge x k y hx hk hy'
theorem Mp.defn (hM : Mdl g rels D act) (h : Mp g D act s f) (hI : Inv g s) {r c : Nat} (hr : r < s.t.length) (hc : c < 2 * g) : Mp g D act (defS (2 * g) s r c) (fun x => if x = s.t.length then act (f r) c else f x) := by
  have hla := length_add (s := s) (2 * g)
  have h1 : Mp g D act (addS (2 * g) s) (fun x => if x = s.t.length then act (f r) c else f x) := by
    refine ⟨fun x hx => ?_, fun x hx => ?_, fun x k y hx hk hy => ?_⟩
    · rw [hla] at hx
      split
      · exact hM.cl _ _ (h.dom r hr) hc
      · exact h.dom x (by omega)
    · rw [hla] at hx
      rcases Nat.lt_or_ge x s.t.length with h2 | h2
      · have := hI.rlt h2
        rw [rp_add_old hI _ h2, if_neg (by omega), if_neg (by omega)]
        exact h.rp x h2
      · obtain rfl : x = s.t.length := by omega
        rw [rp_add_new hI]
    · rw [hla] at hx
      rcases Nat.lt_or_ge x s.t.length with h2 | h2
      · unfold Edge at hy
        rw [at_add_old _ h2] at hy
        have := Edge.lt hI h2 hk hy
        rw [if_neg (by omega), if_neg (by omega)]
        exact h.edge x k y h2 hk hy
      · obtain rfl : x = s.t.length := by omega
        unfold Edge at hy
        rw [at_add_new _ _ hk] at hy
        omega
  exact h1.join hM hI.add (u := r) (v := s.t.length) (c := c) (by omega) (by omega) hc (by rw [if_neg (by omega), if_pos rfl])
theorem scan_mp (hM : Mdl g rels D act) (h : Mp g D act s f) (hR : Rest g s) {r : Nat} (hr : r < s.t.length) (hlr : s.rp r = r) {w : W} (hw : LOk g w) (hcl : actW act (f r) w = f r) : ∀ s', scanS (2 * g) s r w = (s', none) → Mp g D act s' f := by
  obtain ⟨f1, f2, f3⟩ := fwd_spec s.t r w
  have fp := fwd_pos s.t r w
  obtain ⟨b1, b2, b3⟩ := bwd_spec s.t r w (fwd s.t r w)
  have bp := bwd_pos s.t r w (fwd s.t r w)
  obtain ⟨fl, flv⟩ := lead_live hR hw hr hlr _ f1 fp
  obtain ⟨bl, blv⟩ := lead_live hR hw.inv hr hlr _ (by rw [length_inv]; exact b1) bp
  have hF := way_of_lead _ f1 fp
  have hB := way_inv hR.inv (fun x hx => hw.inv x (List.mem_of_mem_take hx)) hr (way_of_lead _ (by rw [length_inv]; exact b1) bp)
  rw [drop_inv b1] at hB
  have hik : fwd s.t r w + bwd s.t r w (fwd s.t r w) ≤ w.length := by
    rcases Nat.eq_zero_or_pos (bwd s.t r w (fwd s.t r w)) with h0 | h0
    · omega
    · have := (b3 (bwd s.t r w (fwd s.t r w) - 1) (by omega)).1
      omega
  have hwt : ∀ k, LOk g (w.take k) := fun k x hx => hw x (List.mem_of_mem_take hx)
  have hwd : ∀ k, LOk g (w.drop k) := fun k x hx => hw x (List.mem_of_mem_drop hx)
  unfold scanS
  generalize hi : fwd s.t r w = i at *
  generalize hk : bwd s.t r w i = k at *
  generalize leadTo s.t r w i = a at *
  generalize leadTo s.t r (Ct.inv w) k = b at *
  have hFa := h.way hR.inv (hwt i) hr hF
  have hBa := h.way hR.inv (hwd _) bl hB
  have hinvd : ∀ j, actW act (actW act (f r) (w.take j)) (w.drop j) = f r := fun j => by rw [← actW_app, List.take_append_drop]; exact hcl
  have hcan : ∀ j p q, LOk g (w.drop j) → D p → D q → actW act p (w.drop j) = actW act q (w.drop j) → p = q := fun j p q h1 hp hq e => by
    rw [← hM.invW h1 hp, e, hM.invW h1 hq]
  intro s' e
  by_cases h1 : i = w.length
  · rw [if_pos h1] at e
    by_cases h2 : a = (r : Int)
    · rw [if_pos h2] at e
      cases e; exact h
    · rw [if_neg h2] at e
      cases e
      refine h.coin hM hR fl hr ?_
      rw [← hFa, h1, List.take_length]
      exact hcl
  · rw [if_neg h1] at e
    by_cases h2 : w.length ≤ i + k
    · rw [if_pos h2] at e
      cases e
      refine h.coin hM hR fl bl ?_
      have hi' : w.length - k = i := by omega
      rw [hi'] at hBa
      refine hcan i _ _ (hwd i) (h.dom _ fl) (h.dom _ bl) ?_
      rw [hBa, ← hFa]
      exact hinvd i
    · rw [if_neg h2] at e
      have hil : i < w.length := by omega
      by_cases h3 : w.length = i + k + 1
      · rw [if_pos h3] at e
        cases e
        refine h.join hM hR.inv fl bl (hw.col hil) ?_
        rw [show w.length - k = i + 1 by omega] at hBa
        have hD : D (act (f a.toNat) (col (w.getD i 0))) := hM.cl _ _ (h.dom _ fl) (hw.col hil)
        refine hcan (i + 1) _ _ (hwd (i + 1)) hD (h.dom _ bl) ?_
        rw [hBa, ← hFa]
        have := hinvd (i + 1)
        rw [take_snocW hil, actW_app] at this
        exact this
      · rw [if_neg h3] at e
        cases e
theorem fillF_mp (hM : Mdl g rels D act) : ∀ (fuel : Nat) {s : St} {f : Nat → α}, Mp g D act s f → Good g lim s → ∀ {r : Nat}, r < s.t.length → s.rp r = r → ∀ {w : W}, LOk g w → actW act (f r) w = f r → ∀ s', fillF (2 * g) lim fuel s r w = some s' → ∃ f', Mp g D act s' f' ∧ ∀ x, x < s.t.length → f' x = f x
  | 0, _, _, _, _, _, _, _, _, _, _, s', e => by cases e
  | fuel + 1, s, f, hf, h, r, hr, hl, w, hw, hcl, s', e => by
    obtain ⟨a, b⟩ := scan_rest h.rest hr hl hw
    unfold fillF at e
    cases hsc : scanS (2 * g) s r w with
    | mk s2 o =>
      rw [hsc] at e
      cases o with
      | none =>
        simp only at e
        cases e
        exact ⟨f, scan_mp hM hf h.rest hr hl hw hcl _ hsc, fun _ _ => rfl⟩
      | some fc =>
        obtain ⟨u, c⟩ := fc
        simp only at e
        obtain ⟨-, h2, h3, h4, h5⟩ := b _ _ _ hsc
        split at e
        · cases e
        · rename_i hne
          obtain ⟨k1, k2⟩ := h.defn h2 h3 h4 h5 (by have := h.n2; omega)
          have hn := length_def (s := s) (2 * g) u c
          have hm := hf.defn hM h.rest.inv h2 h3
          obtain ⟨f', h6, h7⟩ := fillF_mp hM fuel hm k1 (r := r) (by omega) (by rw [rp_def_old h.rest.inv _ _ _ hr]; exact hl) hw (by rw [if_neg (by omega)]; exact hcl) s' e
          refine ⟨f', h6, fun x hx => ?_⟩
          rw [h7 x (by omega), if_neg (by omega)]
theorem fill_mp (hM : Mdl g rels D act) (hf : Mp g D act s f) (h : Good g lim s) {r : Nat} (hr : r < s.t.length) (hl : s.rp r = r) {w : W} (hw : LOk g w) (hcl : actW act (f r) w = f r) {s' : St} (e : fillS (2 * g) lim s r w = some s') : ∃ f', Mp g D act s' f' ∧ f' 0 = f 0 := by
  obtain ⟨f', h1, h2⟩ := fillF_mp hM _ hf h hr hl hw hcl s' e
  exact ⟨f', h1, h2 0 h.n1⟩
/-- an enumeration's state maps onto what satisfies its relators -/
theorem run_mp (hg : 1 ≤ lim) (hr : ∀ j, j < rels.length → LOk g (rels.getD j [])) (hs : ∀ j, j < sub.length → LOk g (sub.getD j [])) (hM : Mdl g rels D act) {p0 : α} (h0 : D p0) (hp : ∀ j, j < sub.length → actW act p0 (sub.getD j []) = p0) {s' : St} (e : runS (2 * g) lim rels sub = some s') : ∃ f, Mp g D act s' f ∧ f 0 = p0 := by
  have hst : (startS (2 * g)).t.length = 1 := by unfold startS; rw [length_add]; rfl
  have hS : Mp g D act (startS (2 * g)) (fun _ => p0) := ⟨fun _ _ => h0, fun _ _ => rfl, fun x c y hx hc hy => by
    have hx0 : x = nilS.t.length := by rw [hst] at hx; show x = 0; omega
    unfold Edge startS at hy
    rw [hx0, at_add_new _ _ hc] at hy
    omega⟩
  unfold runS at e
  cases hx : optTo (subS (2 * g) lim sub) sub.length (startS (2 * g)) with
  | none => rw [hx] at e; cases e
  | some x =>
    rw [hx] at e
    obtain ⟨hG, f1, hf1, hf2⟩ := optTo_inv (p := fun _ s => Good g lim s ∧ ∃ f, Mp g D act s f ∧ f 0 = p0) ⟨start_good hg, _, hS, rfl⟩ sub.length (fun i x y hi ⟨hx, f, hf, hf0⟩ hy => by
      have hl := rp_zero hx.rest hx.n1
      obtain ⟨a, b⟩ := fill_good hx hx.n1 hl (getD_all hs LOk.nil i) hy
      obtain ⟨f', h1, h2⟩ := fill_mp hM hf hx hx.n1 hl (getD_all hs LOk.nil i) (by rw [hf0]; exact hp i hi) hy
      exact ⟨a, f', h1, h2.trans hf0⟩) x hx
    obtain ⟨-, f2, hf3, hf4⟩ := optTo_inv (p := fun _ s => Good g lim s ∧ ∃ f, Mp g D act s f ∧ f 0 = p0) ⟨hG, f1, hf1, hf2⟩ lim (fun r x y _ ⟨hx, f, hf, hf0⟩ hy => by
      unfold rowsS at hy
      split at hy
      · rename_i hlt
        unfold rowS at hy
        cases hz : optTo (relS (2 * g) lim rels r) rels.length x with
        | none => rw [hz] at hy; cases hy
        | some z =>
          rw [hz] at hy
          obtain ⟨⟨hzG, hzE⟩, f3, hf3, hf4⟩ := optTo_inv (p := fun _ y => (Good g lim y ∧ Ext g x y) ∧ ∃ f, Mp g D act y f ∧ f 0 = p0) ⟨⟨hx, Ext.refl hx.rest⟩, f, hf, hf0⟩ rels.length (fun i y v hi ⟨⟨hy1, hy2⟩, f, hf, hf0⟩ hv => by
            have hry : r < y.t.length := Nat.lt_of_lt_of_le hlt hy2.n
            unfold relS at hv
            split at hv
            · rename_i hl
              obtain ⟨a, b⟩ := fill_good hy1 hry hl (getD_all hr LOk.nil i) hv
              obtain ⟨f', h1, h2⟩ := fill_mp hM hf hy1 hry hl (getD_all hr LOk.nil i) (hM.rel _ i (hf.dom r hry) hi) hv
              exact ⟨⟨a, hy2.trans hx.rest hy1.rest b⟩, f', h1, h2.trans hf0⟩
            · cases hv
              exact ⟨⟨hy1, hy2⟩, f, hf, hf0⟩) z hz
          obtain ⟨⟨hyG, hyE⟩, f5, hf5, hf6⟩ := optTo_inv (p := fun _ y => (Good g lim y ∧ Ext g z y) ∧ ∃ f, Mp g D act y f ∧ f 0 = p0) ⟨⟨hzG, Ext.refl hzG.rest⟩, f3, hf3, hf4⟩ (2 * g) (fun c y v hc ⟨⟨hy1, hy2⟩, f, hf, hf0⟩ hv => by
            have hry : r < y.t.length := Nat.lt_of_lt_of_le hlt (Nat.le_trans hzE.n hy2.n)
            unfold colS at hv
            split at hv
            · rename_i hl
              split at hv
              · cases hv
              · rename_i hne
                cases hv
                obtain ⟨a, b⟩ := hy1.defn hry hc hl.1 hl.2 (by have := hy1.n2; omega)
                exact ⟨⟨a, hy2.trans hzG.rest hy1.rest b⟩, _, hf.defn hM hy1.rest.inv hry hc, by rw [if_neg (by have := hy1.n1; omega)]; exact hf0⟩
            · cases hv
              exact ⟨⟨hy1, hy2⟩, f, hf, hf0⟩) y hy
          exact ⟨hyG, f5, hf5, hf6⟩
      · cases hy
        exact ⟨hx, f, hf, hf0⟩) s' e
    exact ⟨f2, hf3, hf4⟩
end
end Go.Proofs.Ct
namespace Go.Proofs.Ct
structure Coset (g : Nat) (rels sub : List W) (t : Tb) : Prop where
  full : Full g t
  std : std t 0 = some t
  rel : ∀ i, i < t.length → ∀ j, j < rels.length → Way t i (rels.getD j []) i
  subc : ∀ j, j < sub.length → Way t 0 (sub.getD j []) 0
  univ : ∀ {α : Type} {D : α → Prop} {act : α → Nat → α} {p0 : α}, Mdl g rels D act → D p0 → (∀ j, j < sub.length → actW act p0 (sub.getD j []) = p0) → ∃ φ : Nat → α, φ 0 = p0 ∧ (∀ x, x < t.length → D (φ x)) ∧ ∀ x c y, x < t.length → c < 2 * g → Edge t x c y → act (φ x) c = φ y
section
variable {g lim : Nat} {rels sub : List W} {t u : Tb} {φ ψ : Nat → Nat}
/-- where an edge of the table of the living comes from -/
theorem tab_from {s : St} (h : Rest g s) {i c k : Nat} (hc : c < 2 * g) (hi : i < (tabS s).length) (hp : ∀ x, x < s.t.length → 0 ≤ s.t.at (s.rp x) c) (he : Edge (tabS s) i c k) : ∃ x y, x < s.t.length ∧ y < s.t.length ∧ Edge s.t x c y ∧ (liv s).getD i 0 = x ∧ (liv s).getD k 0 = y := by
  rw [length_tab] at hi
  obtain ⟨h1, h2, h3⟩ := livTo_at (s := s) s.t.length i hi
  have h4 := hp _ h1
  rw [h2] at h4
  obtain ⟨y, hy⟩ := Int.eq_ofNat_of_zero_le h4
  have hE : Edge s.t ((livTo s s.t.length).getD i 0) c y := hy
  obtain ⟨-, h5, h6⟩ := h.live h1 hc hE
  have h7 := (tab_edge h h1 hc hE).2
  rw [h3] at h7
  have h8 : k = num s y := by unfold Edge at he h7; omega
  exact ⟨_, y, h1, h6, hE, rfl, by rw [h8]; exact (num_lt (n := s.t.length) h6 h5).2⟩
theorem coset_of_run (hg1 : 1 ≤ g) (hg16 : g ≤ 16) (hlim : lim ≤ 20000) (hl1 : 1 ≤ lim) (hr : ∀ j, j < rels.length → LOk g (rels.getD j [])) (hs : ∀ j, j < sub.length → LOk g (sub.getD j [])) {s : St} (e : runS (2 * g) lim rels sub = some s) :
    Coset g rels sub (stdT (tabS s) 0) ∧ stdE g (tabS s) 0 = (stdT (tabS s) 0, 0) ∧ (stdT (tabS s) 0).length = (liv s).length := by
  obtain ⟨hG, hC⟩ := run_good hl1 hr hs e
  obtain ⟨hRC, hSC⟩ := run_closed hl1 hr hs e
  obtain ⟨a, b, c⟩ := tab_good hg1 hg16 hlim hG hC
  have hF : Full g (tabS s) := ⟨a, b, c⟩
  have hS := hF.std_of a.n1
  refine ⟨⟨hS.full, hS.std, fun i hi j hj => ?_, fun j hj => ?_, fun {α D act p0} hM h0 hp => ?_⟩, (tab_std hg1 hg16 hlim hG hC).2, by rw [length_stdT, length_tab]⟩
  · obtain ⟨φ, hφ, h0φ, -⟩ := hS.there
    obtain ⟨ψ, hψ, h0ψ, -⟩ := hS.back
    -- every number is met
    have hw := tab_closed hG.rest hr hRC (ψ i) (hψ.lt i hi) j hj
    have h2 := hφ.way a (hr j hj) (hψ.lt i hi) hw
    -- φ (ψ i) = i: both are maps of the standard table to itself that fix 0
    have key : ∀ x, Reach g (stdT (tabS s) 0) 0 x → x < (stdT (tabS s) 0).length ∧ φ (ψ x) = x := fun x hx => by
      induction hx with
      | refl =>
        exact ⟨hS.full.good.n1, by rw [h0ψ, h0φ]⟩
      | @step y z c _ hc he ih =>
        obtain ⟨i1, i2⟩ := ih
        refine ⟨hS.full.good.elt i1 hc he, ?_⟩
        have h3 := hφ.edge _ _ _ (hψ.lt y i1) hc (hψ.edge y c z i1 hc he)
        rw [i2] at h3
        unfold Edge at he h3
        omega
    rw [(key i (hS.full.conn i hi)).2] at h2
    exact h2
  · obtain ⟨φ, hφ, h0, -⟩ := hS.there
    have hw := tab_closed0 hG.rest hG.n1 (hs j hj) (hSC j hj)
    have h2 := hφ.way a (hs j hj) a.n1 hw
    rwa [h0] at h2
  · obtain ⟨f, hf, hf0⟩ := run_mp hl1 hr hs hM h0 hp e
    obtain ⟨ψ, hψ, hψ0, -⟩ := hS.back
    have hlv : ∀ i, i < (tabS s).length → (liv s).getD i 0 < s.t.length := fun i hi => by
      rw [length_tab] at hi
      exact (livTo_at (s := s) s.t.length i hi).1
    refine ⟨fun x => f ((liv s).getD (ψ x) 0), ?_, fun x hx => hf.dom _ (hlv _ (hψ.lt x hx)), fun x c y hx hc he => ?_⟩
    · show f ((liv s).getD (ψ 0) 0) = p0
      rw [hψ0]
      have h1 := (num_lt (n := s.t.length) hG.n1 (rp_zero hG.rest hG.n1)).2
      have h2 : num s 0 = 0 := rfl
      rw [h2] at h1
      have h3 : (liv s).getD 0 0 = 0 := h1
      rw [h3]; exact hf0
    · have h1 := hψ.edge x c y hx hc he
      obtain ⟨x', y', h2, h3, h4, h5, h6⟩ := tab_from hG.rest hc (hψ.lt x hx) (fun x hx => hC x hx hx c hc) h1
      show act (f ((liv s).getD (ψ x) 0)) c = f ((liv s).getD (ψ y) 0)
      rw [h5, h6]
      exact hf.edge _ _ _ h2 hc h4
/-- where a letter leads -/
def nx (t : Tb) (x c : Nat) : Nat := (t.at x c).toNat
theorem Full.nx (h : Full g t) {x c : Nat} (hx : x < t.length) (hc : c < 2 * g) : Ct.nx t x c < t.length ∧ Edge t x c (Ct.nx t x c) := by
  obtain ⟨y, hy, he⟩ := h.edge hx hc
  have : Ct.nx t x c = y := by unfold Ct.nx; unfold Edge at he; omega
  rw [this]; exact ⟨hy, he⟩
theorem Full.way (h : Full g t) : ∀ {w : W} {x : Nat}, LOk g w → x < t.length → actW (Ct.nx t) x w < t.length ∧ Way t x w (actW (Ct.nx t) x w) := by
  intro w
  induction w with
  | nil => intro x _ hx; exact ⟨hx, rfl⟩
  | cons l w ih =>
    intro x hw hx
    obtain ⟨h1, h2⟩ := h.nx hx (col_ltL hw.cons.1)
    obtain ⟨h3, h4⟩ := ih hw.cons.2 h1
    exact ⟨h3, _, h2, h4⟩
theorem way_fun : ∀ {w : W} {x y z : Nat}, Way t x w y → Way t x w z → y = z := by
  intro w
  induction w with
  | nil => intro x y z h1 h2; have e1 : x = y := h1; have e2 : x = z := h2; omega
  | cons l w ih =>
    rintro x y z ⟨a, h1, h2⟩ ⟨b, h3, h4⟩
    have : a = b := by unfold Edge at h1 h3; omega
    rw [this] at h2
    exact ih h2 h4
theorem Full.actW_of (h : Full g t) {w : W} {x y : Nat} (hw : LOk g w) (hx : x < t.length) (h1 : Way t x w y) : actW (Ct.nx t) x w = y := way_fun (h.way hw hx).2 h1
/-- maps that agree at 0 are equal -/
theorem Hm.unique (ht : Full g t) (h1 : Hm g t u φ) (h2 : Hm g t u ψ) (h0 : φ 0 = ψ 0) : ∀ x, x < t.length → φ x = ψ x := fun x hx => by
  have key : ∀ y, Reach g t 0 y → y < t.length ∧ φ y = ψ y := fun y hy => by
    induction hy with
    | refl => exact ⟨ht.good.n1, h0⟩
    | @step y z c _ hc he ih =>
      obtain ⟨i1, i2⟩ := ih
      refine ⟨ht.good.elt i1 hc he, ?_⟩
      have a := h1.edge _ _ _ i1 hc he
      have b := h2.edge _ _ _ i1 hc he
      rw [i2] at a
      unfold Edge at a b
      omega
  exact (key x (ht.conn x hx)).2
theorem Hm.comp {v : Tb} (h1 : Hm g t u φ) (h2 : Hm g u v ψ) : Hm g t v (fun x => ψ (φ x)) := ⟨fun x hx => h2.lt _ (h1.lt x hx), fun x c y hx hc he => h2.edge _ _ _ (h1.lt x hx) hc (h1.edge x c y hx hc he)⟩
theorem Hm.id : Hm g t t (fun x => x) := ⟨fun _ h => h, fun _ _ _ _ _ h => h⟩
theorem Hm.inj (ht : Full g t) (h1 : Hm g t u φ) (h2 : Hm g u t ψ) (h0 : ψ (φ 0) = 0) : ∀ x y, x < t.length → y < t.length → φ x = φ y → x = y := fun x y hx hy e => by
  have a : ψ (φ x) = x := Hm.unique ht (h1.comp h2) Hm.id h0 x hx
  have b : ψ (φ y) = y := Hm.unique ht (h1.comp h2) Hm.id h0 y hy
  rw [← a, ← b, e]
theorem len_le_of_sub : ∀ {a b : List Nat}, a.Nodup → (∀ x ∈ a, x ∈ b) → a.length ≤ b.length
  | [], _, _, _ => Nat.zero_le _
  | x :: a, b, hn, h => by
    obtain ⟨h1, h2⟩ := List.nodup_cons.1 hn
    have hx := h x (List.mem_cons_self ..)
    have := len_le_of_sub (a := a) (b := b.erase x) h2 fun y hy => by
      have hne : y ≠ x := fun e => h1 (e ▸ hy)
      exact (List.mem_erase_of_ne hne).2 (h y (List.mem_cons_of_mem _ hy))
    rw [List.length_erase_of_mem hx] at this
    have := List.length_pos_of_mem hx
    simp only [List.length_cons]
    omega
theorem nodup_map_on {f : Nat → Nat} : ∀ {l : List Nat}, (∀ x ∈ l, ∀ y ∈ l, f x = f y → x = y) → l.Nodup → (l.map f).Nodup
  | [], _, _ => List.nodup_nil
  | x :: l, h, hn => by
    obtain ⟨h1, h2⟩ := List.nodup_cons.1 hn
    rw [List.map_cons]
    refine List.nodup_cons.2 ⟨fun hm => ?_, nodup_map_on (fun a ha b hb => h a (List.mem_cons_of_mem _ ha) b (List.mem_cons_of_mem _ hb)) h2⟩
    obtain ⟨y, hy, he⟩ := List.mem_map.1 hm
    have := h y (List.mem_cons_of_mem _ hy) x (List.mem_cons_self ..) he
    exact h1 (this ▸ hy)
/-- Holds accepts the table -/
theorem Coset.holds (h : Coset g rels sub t) : holdsB rels sub t = true := by
  unfold holdsB
  rw [Bool.and_eq_true, Bool.and_eq_true]
  refine ⟨⟨?_, ?_⟩, ?_⟩
  · unfold complete
    rw [Bool.not_eq_true', List.any_eq_false]
    intro row hrow hc
    obtain ⟨r, hr, rfl⟩ := List.mem_iff_getElem.1 hrow
    have h1 : (-1 : Int) ∈ t[r] := by simpa using hc
    obtain ⟨c, hc, he⟩ := List.mem_iff_getElem.1 h1
    have e : t.row r = t[r] := by unfold Tb.row; rw [List.getD_eq_getElem?_getD, List.getElem?_eq_getElem hr]; rfl
    have h2 := h.full.pos r hr c (by rw [← h.full.good.len r hr, e]; exact hc)
    unfold Tb.at at h2
    rw [e, List.getD_eq_getElem?_getD, List.getElem?_eq_getElem hc, he] at h2
    simp at h2
  · unfold staysB
    rw [List.all_eq_true]
    intro w hw
    obtain ⟨j, hj, rfl⟩ := List.mem_iff_getElem.1 hw
    have h1 := h.subc j hj
    rw [List.getD_eq_getElem?_getD, List.getElem?_eq_getElem hj] at h1
    have := leads_iff.2 h1
    simpa using this
  · rw [List.all_eq_true]
    intro r hr
    have hr' : r < t.length := by simpa using hr
    unfold staysB
    rw [List.all_eq_true]
    intro w hw
    obtain ⟨j, hj, rfl⟩ := List.mem_iff_getElem.1 hw
    have h1 := h.rel r hr' j hj
    rw [List.getD_eq_getElem?_getD, List.getElem?_eq_getElem hj] at h1
    have := leads_iff.2 h1
    simpa using this
end
end Go.Proofs.Ct
namespace Go.Proofs.Ct
def MI (s : St) : Prop := s.live ≤ s.most ∧ s.most ≤ s.t.length
section
variable {g lim : Nat} {s s1 : St} {rels sub : List W}
theorem live_le (h : Rest g s) (h1 : Rest g s1) (he : Ext g s s1) (hn : s1.t.length = s.t.length) : s1.live ≤ s.live := by
  have a := h.lv
  have b := h1.lv
  have hd : dc s ≤ dc s1 := by
    unfold dc
    rw [hn]
    refine List.countP_mono_left fun x hx hp => ?_
    have hx' : x < s.t.length := by simpa using hx
    have h2 : s.rp x ≠ x := by simpa using hp
    have h3 := h.inv.rle x hx'
    have h4 := he.coarse x hx'
    have h5 := h1.inv.rle (s.rp x) (by rw [hn]; exact h.inv.rlt hx')
    have : s1.rp x ≠ x := by omega
    simpa using this
  omega
theorem MI.ext (hm : MI s) (h : Rest g s) (h1 : Rest g s1) (he : Ext g s s1) (hn : s1.t.length = s.t.length) (hmo : s1.most = s.most) : MI s1 := by
  have := live_le h h1 he hn
  unfold MI at hm ⊢
  omega
theorem MI.defn (hm : MI s) (h : Rest g s) (r c : Nat) : MI (defS (2 * g) s r c) := by
  have hl := length_def (s := s) (2 * g) r c
  have h1 : (defS (2 * g) s r c).live = s.live + 1 := rfl
  have h2 : (defS (2 * g) s r c).most = max s.most (s.live + 1) := rfl
  have := h.lv
  unfold MI at hm ⊢
  omega
end
end Go.Proofs.Ct
namespace Go.Proofs.Ct
/-- in the list P of parents, the root of x is r -/
inductive Root (P : List Int) : Nat → Nat → Prop where
  | here {x : Nat} (h : P.getD x 0 = (x : Int)) : Root P x x
  | up {x y r : Nat} (h : P.getD x 0 = (y : Int)) (hl : y < x) (hr : Root P y r) : Root P x r
theorem Root.le {P : List Int} {x r : Nat} (h : Root P x r) : r ≤ x := by
  induction h with
  | here => exact Nat.le_refl _
  | up _ hl _ ih => omega
theorem Root.self {P : List Int} {x r : Nat} (h : Root P x r) : P.getD r 0 = (r : Int) := by
  induction h with
  | here h => exact h
  | up _ _ _ ih => exact ih
theorem Root.parent {P : List Int} {x r : Nat} (h : Root P x r) : ∃ y : Nat, P.getD x 0 = (y : Int) ∧ y ≤ x ∧ Root P y r ∧ (y = x ↔ r = x) := by
  cases h with
  | here h => exact ⟨x, h, Nat.le_refl _, .here h, by simp⟩
  | @up _ y _ h hl hr => exact ⟨y, h, Nat.le_of_lt hl, hr, ⟨fun e => by omega, fun e => by have := hr.le; omega⟩⟩
theorem Root.unique {P : List Int} {x r r' : Nat} (h : Root P x r) (h' : Root P x r') : r = r' := by
  induction h with
  | here h =>
    cases h' with
    | here => rfl
    | up h2 hl _ => omega
  | @up x y _ h hl hr ih =>
    cases h' with
    | here h2 => omega
    | @up _ y' _ h2 hl2 hr2 =>
      obtain rfl : y = y' := by omega
      exact ih hr2
theorem getD_set_of {l : List Int} {k j : Nat} {v : Int} (hk : k < l.length) : (l.set k v).getD j 0 = if k = j then v else l.getD j 0 := by
  rw [List.getD_eq_getElem?_getD, List.getElem?_set, List.getD_eq_getElem?_getD]
  by_cases h : k = j
  · subst h; simp [hk]
  · simp [h]
/-- a way is made shorter -/
theorem Root.short {P : List Int} {c q : Nat} (hc : Root P c q) (hcl : c < P.length) {x r : Nat} (h : Root P x r) : Root (P.set c (q : Int)) x r := by
  have hq := hc.self
  have hql := hc.le
  have hget : ∀ j, (P.set c (q : Int)).getD j 0 = if c = j then (q : Int) else P.getD j 0 := fun j => getD_set_of hcl
  have hrq : Root (P.set c (q : Int)) q q := .here (by
    rw [hget]
    split
    · rfl
    · exact hq)
  induction h with
  | @here x h =>
    refine .here ?_
    rw [hget]
    split
    · rename_i e
      subst e
      have := hc.unique (.here h)
      rw [this]
    · exact h
  | @up x y r h hl hr ih =>
    by_cases e : c = x
    · subst e
      have hr' := hc.unique (.up h hl hr)
      subst hr'
      have : q ≤ y := hr.le
      exact .up (y := q) (by rw [hget, if_pos rfl]) (by omega) hrq
    · exact .up (by rw [hget, if_neg e]; exact h) hl ih
/-- two roots are joined -/
theorem Root.link {P : List Int} {a b : Nat} (ha : P.getD a 0 = (a : Int)) (hb : P.getD b 0 = (b : Int)) (hba : b < a) (hal : a < P.length) {x r : Nat} (h : Root P x r) : Root (P.set a (b : Int)) x (if r = a then b else r) := by
  have hget : ∀ j, (P.set a (b : Int)).getD j 0 = if a = j then (b : Int) else P.getD j 0 := fun j => getD_set_of hal
  have hbb : Root (P.set a (b : Int)) b b := .here (by rw [hget, if_neg (by omega)]; exact hb)
  induction h with
  | @here x h =>
    by_cases e : x = a
    · subst e
      rw [if_pos rfl]
      exact .up (y := b) (by rw [hget, if_pos rfl]) hba hbb
    · rw [if_neg e]
      exact .here (by rw [hget, if_neg (fun h => e h.symm)]; exact h)
  | @up x y r h hl hr ih =>
    have e : a ≠ x := fun e => by subst e; omega
    exact .up (by rw [hget, if_neg e]; exact h) hl ih
theorem Root.more {P : List Int} {x r : Nat} (hx : x < P.length) (h : Root P x r) (z : Int) : Root (P ++ [z]) x r := by
  have hget : ∀ j, j < P.length → (P ++ [z]).getD j 0 = P.getD j 0 := fun j hj => by simp [List.getD_eq_getElem?_getD, List.getElem?_append_left hj]
  induction h with
  | here h => exact .here (by rw [hget _ hx]; exact h)
  | up h hl hr ih => exact .up (by rw [hget _ hx]; exact h) hl (ih (by omega))
/-- the parents give the representatives -/
structure Roots (P : List Int) (s : St) : Prop where
  len : P.length = s.t.length
  root : ∀ x, x < s.t.length → Root P x (s.rp x)
theorem Roots.short {P : List Int} {s : St} (h : Roots P s) {c : Nat} (hc : c < s.t.length) : Roots (P.set c (s.rp c : Int)) s :=
  ⟨by simpa using h.len, fun x hx => (h.root c hc).short (by rw [h.len]; exact hc) (h.root x hx)⟩
theorem Roots.merge {g : Nat} {P : List Int} {s : St} (hI : Inv g s) (h : Roots P s) {a b : Nat} (ha : a < s.t.length) (hb : b < s.t.length) (hne : s.rp a ≠ s.rp b) : Roots (P.set (max (s.rp a) (s.rp b)) ((min (s.rp a) (s.rp b) : Nat) : Int)) (mergeS s a b) := by
  have ht := t_merge s a b
  have hra := (h.root a ha).self
  have hrb := (h.root b hb).self
  have hla := hI.rlt ha
  have hlb := hI.rlt hb
  refine ⟨by rw [ht]; simpa using h.len, fun x hx => ?_⟩
  rw [ht] at hx
  rw [rp_merge hI ha hb hx]
  refine Root.link ?_ ?_ (by omega) (by rw [h.len]; omega) (h.root x hx)
  · rcases Nat.le_total (s.rp a) (s.rp b) with h' | h'
    · rw [Nat.max_eq_right h']; exact hrb
    · rw [Nat.max_eq_left h']; exact hra
  · rcases Nat.le_total (s.rp a) (s.rp b) with h' | h'
    · rw [Nat.min_eq_left h']; exact hra
    · rw [Nat.min_eq_right h']; exact hrb
theorem Roots.add {g : Nat} {P : List Int} {s : St} (hI : Inv g s) (h : Roots P s) (m : Nat) : Roots (P ++ [(s.t.length : Int)]) (addS m s) := by
  refine ⟨by rw [length_add]; simp [h.len], fun x hx => ?_⟩
  rw [length_add] at hx
  rcases Nat.lt_or_ge x s.t.length with h1 | h1
  · rw [rp_add_old hI m h1]
    exact (h.root x h1).more (by rw [h.len]; exact h1) _
  · obtain rfl : x = s.t.length := by omega
    rw [rp_add_new hI m]
    exact .here (by rw [← h.len]; simp [List.getD_eq_getElem?_getD])
/-- the rows and the queue do not matter -/
theorem Roots.of_rep {P : List Int} {s s' : St} (h : Roots P s) (hn : s'.t.length = s.t.length) (hr : s'.rep = s.rep) : Roots P s' :=
  ⟨by rw [hn]; exact h.len, fun x hx => by rw [hn] at hx; have := h.root x hx; unfold St.rp at this ⊢; rw [hr]; exact this⟩
end Go.Proofs.Ct
