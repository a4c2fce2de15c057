/- Plain: collection acts on the coordinates from the generator on alone; the equation of times; Plain: products of normal lists; what a consistent level gives; Plain: consistent overlaps make the product associative; Plain: consistent overlaps make the product associative: the step down one level; Plain: a consistent presentation has an associative product. -/
import Derived.Test.YtffkmchmakfcpaaOrCS13
namespace Go.Proofs.Pc
theorem getD_map_range (f : Nat → Int) (n k : Nat) : ((List.range n).map f).getD k 0 = if k < n then f k else 0 := by
  simp only [List.getD_eq_getElem?_getD, List.getElem?_map]
  rcases Nat.lt_or_ge k n with h | h
  · simp [h]
  · rw [List.getElem?_eq_none (by simpa using h), if_neg (by omega)]; rfl
theorem ext_len {N : Nat} {x y : V} (hx : x.length = N) (hy : y.length = N) (h : ∀ k, k < N → x.getD k 0 = y.getD k 0) : x = y := by
  apply List.ext_getElem (by omega)
  intro k h1 h2
  have := h k (by omega)
  simpa [List.getD_eq_getElem?_getD, h1, h2] using this
/-- u below m, x from m on -/
def J (N m : Nat) (u x : V) : V := (List.range N).map fun k => if k < m then u.getD k 0 else x.getD k 0
theorem length_J (N m : Nat) (u x : V) : (J N m u x).length = N := by simp [J]
theorem getD_J (N m : Nat) (u x : V) (k : Nat) : (J N m u x).getD k 0 = if k < N then (if k < m then u.getD k 0 else x.getD k 0) else 0 := by
  unfold J; rw [getD_map_range]
section
variable {N m : Nat} {u : V}
theorem iter_J {f : V → V} (hl : ∀ z, z.length = N → (f z).length = N) (hf : ∀ z, z.length = N → f (J N m u z) = J N m u (f z)) : ∀ (n : Nat) (z : V), z.length = N → iter f n (J N m u z) = J N m u (iter f n z)
  | 0, _, _ => rfl
  | n + 1, z, hz => by
    show f (iter f n _) = J N m u (f (iter f n z))
    rw [iter_J hl hf n z hz, hf _ (iter_inv (p := fun z => z.length = N) (fun z hz => hl z hz) n z hz)]
theorem foldTo_J {f : Nat → V → V} : ∀ (n : Nat) (_ : ∀ k z, k < n → z.length = N → (f k z).length = N) (_ : ∀ k z, k < n → z.length = N → f k (J N m u z) = J N m u (f k z)) (z : V), z.length = N → foldTo f n (J N m u z) = J N m u (foldTo f n z)
  | 0, _, _, _, _ => rfl
  | n + 1, hl, hf, z, hz => by
    show f n (foldTo f n _) = J N m u (f n (foldTo f n z))
    rw [foldTo_J n (fun k z hk => hl k z (by omega)) (fun k z hk => hf k z (by omega)) z hz, hf n _ (by omega) (foldTo_inv (p := fun z => z.length = N) n (fun k z hk hz => hl k z (by omega) hz) z hz)]
theorem foldTo_congr {α : Type} {f g : Nat → α → α} : ∀ (n : Nat) (_ : ∀ k z, k < n → f k z = g k z) (x : α), foldTo f n x = foldTo g n x
  | 0, _, _ => rfl
  | n + 1, h, x => by
    show f n (foldTo f n x) = g n (foldTo g n x)
    rw [foldTo_congr n (fun k z hk => h k z (by omega)) x, h n _ (by omega)]
theorem iter_congr {α : Type} {f g : α → α} (h : ∀ z, f z = g z) : ∀ (n : Nat) (x : α), iter f n x = iter g n x
  | 0, _ => rfl
  | n + 1, x => by show f (iter f n x) = g (iter g n x); rw [iter_congr h n x, h]
end
theorem byF_len {T : Nat → V → V} {N : Nat} (hT : ∀ k z, z.length = N → (T k z).length = N) (n : Nat) (y x : V) (hx : x.length = N) : (byF T n y x).length = N :=
  foldTo_inv (p := fun z => z.length = N) n (fun k z _ hz => iter_inv (p := fun z => z.length = N) (fun z hz => hT k z hz) _ z hz) x hx
theorem timesF_len (P : PcD) : ∀ (d i : Nat) (x : V), (timesF P d i x).length = x.length
  | 0, _, _ => rfl
  | d + 1, i, x => by
    unfold timesF
    have hb : ∀ y z : V, z.length = x.length → (byF (timesF P d) P.n y z).length = x.length := fun y z hz => byF_len (fun k z hz => (timesF_len P d k z).trans hz) _ _ _ hz
    refine foldTo_inv (p := fun z => z.length = x.length) _ (fun t z _ hz => iter_inv (p := fun z => z.length = x.length) (fun z hz => hb _ z hz) _ z hz) _ ?_
    split
    · exact hb _ _ (by simp [length_bump])
    · exact length_bump x i
theorem byF_congr {T T' : Nat → V → V} {n : Nat} {y : V} (h : ∀ k, k < n → 0 < y.getD k 0 → ∀ z, T k z = T' k z) (x : V) : byF T n y x = byF T' n y x :=
  foldTo_congr n (fun k z hk => by
    rcases Int.lt_or_le 0 (y.getD k 0) with h0 | h0
    · exact iter_congr (h k hk h0) _ z
    · have : (y.getD k 0).toNat = 0 := by omega
      rw [this]; rfl) x
theorem byF_J {T : Nat → V → V} {N m : Nat} {u y : V} (hl : ∀ k z, z.length = N → (T k z).length = N) (hT : ∀ k z, k < N → m ≤ k → z.length = N → T k (J N m u z) = J N m u (T k z)) (hy : ∀ k, k < N → k < m → y.getD k 0 = 0) (x : V) (hx : x.length = N) :
    byF T N y (J N m u x) = J N m u (byF T N y x) :=
  foldTo_J N (fun k z _ hz => iter_inv (p := fun z => z.length = N) (fun z hz => hl k z hz) _ z hz) (fun k z hk hz => by
    rcases Nat.lt_or_ge k m with h | h
    · rw [hy k hk h]; rfl
    · exact iter_J (hl k) (fun z hz => hT k z hk h hz) _ z hz) x hx
theorem bump_J {N m i : Nat} {u x : V} (hm : m ≤ i) (hi : i < N) (hx : x.length = N) : bump (J N m u x) i = J N m u (bump x i) := by
  refine ext_len (N := N) (by rw [length_bump, length_J]) (length_J _ _ _ _) fun k hk => ?_
  rw [getD_bump _ _ _ (by rw [length_J]; exact hi), getD_J, getD_J, getD_J, getD_bump _ _ _ (by omega)]
  by_cases e : k = i
  · subst e; simp [hi, show ¬ k < m by omega]
  · by_cases h : k < i
    · by_cases h2 : k < m <;> simp [e, h, h2, hk]
    · simp [e, h, hk, show ¬ k < m by omega]
theorem set_J {N m i : Nat} {u x : V} {v : Int} (hm : m ≤ i) (hi : i < N) (hx : x.length = N) : (J N m u x).set i v = J N m u (x.set i v) := by
  refine ext_len (N := N) (by simp [length_J]) (length_J _ _ _ _) fun k hk => ?_
  rw [getD_set, getD_J, getD_J, getD_set, length_J]
  by_cases e : i = k
  · subst e; simp [hi, hx, show ¬ i < m by omega]
  · simp [e]
theorem timesF_J {P : PcD} (hv : Valid P) : ∀ (d i m : Nat) (u x : V), m ≤ i → i < P.n → x.length = P.n → timesF P d i (J P.n m u x) = J P.n m u (timesF P d i x)
  | 0, _, _, _, _, _, _, _ => rfl
  | d + 1, i, m, u, x, hm, hi, hx => by
    have hlen : ∀ k z, z.length = P.n → (timesF P d k z).length = P.n := fun k z hz => (timesF_len P d k z).trans hz
    have hby : ∀ y z : V, (∀ k, k < P.n → k < i + 1 → y.getD k 0 = 0) → z.length = P.n → byF (timesF P d) P.n y (J P.n m u z) = J P.n m u (byF (timesF P d) P.n y z) := fun y z hy hz =>
      byF_J hlen (fun k z hk hmk hz => timesF_J hv d k m u z hmk hk hz) (fun k hk hkm => hy k hk (by omega)) z hz
    have hbl : ∀ y z : V, z.length = P.n → (byF (timesF P d) P.n y z).length = P.n := fun y z hz => byF_len hlen _ _ _ hz
    unfold timesF
    have he : ∀ t, t < P.n - (i + 1) → (J P.n m u x).getD (i + 1 + t) 0 = x.getD (i + 1 + t) 0 := fun t ht => by
      rw [getD_J, if_pos (by omega), if_neg (by omega)]
    have hei : (J P.n m u x).getD i 0 = x.getD i 0 := by rw [getD_J, if_pos hi, if_neg (by omega)]
    rw [foldTo_congr (P.n - (i + 1)) (g := fun t x' => iter (byF (timesF P d) P.n (P.cj (i + 1 + t) i)) (x.getD (i + 1 + t) 0).toNat x') (fun t z ht => by rw [he t ht]), hei]
    have hpow := hv.pow i hi
    have hs : (if x.getD i 0 + 1 = P.ord i then byF (timesF P d) P.n (P.pow i) ((bump (J P.n m u x) i).set i 0) else bump (J P.n m u x) i) =
        J P.n m u (if x.getD i 0 + 1 = P.ord i then byF (timesF P d) P.n (P.pow i) ((bump x i).set i 0) else bump x i) := by
      rw [bump_J hm hi hx, set_J hm hi (by rw [length_bump]; exact hx), hby _ _ (fun k hk h => (hpow.2 k hk).2.2 h) (by simp [length_bump, hx])]
      split <;> rfl
    rw [hs]
    refine foldTo_J _ (fun t z ht hz => iter_inv (p := fun z => z.length = P.n) (fun z hz => hbl _ z hz) _ z hz) (fun t z ht hz => ?_) _ ?_
    · refine iter_J (fun z hz => hbl _ z hz) (fun z hz => hby _ z (fun k hk h => ((hv.cj (i + 1 + t) (by omega) i (by omega)).2 k hk).2.2 h) hz) _ z hz
    · split
      · exact hbl _ _ (by simp [length_bump, hx])
      · simp [length_bump, hx]
theorem timesF_fuel {P : PcD} (hv : Valid P) : ∀ (d d' i : Nat) (x : V), i < P.n → P.n ≤ i + d → P.n ≤ i + d' → timesF P d i x = timesF P d' i x
  | 0, _, i, _, hi, h, _ => by omega
  | _ + 1, 0, i, _, hi, _, h => by omega
  | d + 1, d' + 1, i, x, hi, h, h' => by
    have hby : ∀ y z : V, (∀ k, k < P.n → k < i + 1 → y.getD k 0 = 0) → byF (timesF P d) P.n y z = byF (timesF P d') P.n y z := fun y z hy =>
      byF_congr (fun k hk h0 z => timesF_fuel hv d d' k z hk (by rcases Nat.lt_or_ge k (i + 1) with hh | hh; (have := hy k hk hh; omega); omega) (by rcases Nat.lt_or_ge k (i + 1) with hh | hh; (have := hy k hk hh; omega); omega)) z
    unfold timesF
    rw [hby _ _ (fun k hk h => ((hv.pow i hi).2 k hk).2.2 h)]
    exact foldTo_congr _ (fun t z ht => iter_congr (fun z => hby _ z (fun k hk h => ((hv.cj (i + 1 + t) (by omega) i (by omega)).2 k hk).2.2 h)) _ z) _
/-- the generator i from the right -/
def T (P : PcD) (i : Nat) (x : V) : V := timesF P P.n i x
theorem mulP_def (P : PcD) (x y : V) : mulP P x y = foldTo (fun k z => iter (T P k) (y.getD k 0).toNat z) P.n x := rfl
/-- what stands behind the generator, conjugated -/
def sig (P : PcD) (i : Nat) (a z : V) : V := foldTo (fun t z' => iter (fun z => mulP P z (P.cj (i + 1 + t) i)) (a.getD (i + 1 + t) 0).toNat z') (P.n - (i + 1)) z
theorem T_eq {P : PcD} (hv : Valid P) {i : Nat} (hi : i < P.n) (x : V) : T P i x = sig P i x (if x.getD i 0 + 1 = P.ord i then mulP P ((bump x i).set i 0) (P.pow i) else bump x i) := by
  obtain ⟨N, hN⟩ : ∃ N, P.n = N + 1 := ⟨P.n - 1, by omega⟩
  have hby : ∀ y z : V, (∀ k, k < P.n → k < i + 1 → y.getD k 0 = 0) → byF (timesF P N) P.n y z = mulP P z y := fun y z hy =>
    byF_congr (fun k hk h0 z => timesF_fuel hv N P.n k z hk (by rcases Nat.lt_or_ge k (i + 1) with hh | hh; (have := hy k hk hh; omega); omega) (by omega)) z
  unfold T
  rw [timesF_fuel hv P.n (N + 1) i x hi (by omega) (by omega)]
  unfold timesF sig
  rw [hby _ _ (fun k hk h => ((hv.pow i hi).2 k hk).2.2 h)]
  exact foldTo_congr _ (fun t z ht => iter_congr (fun z => hby _ z (fun k hk h => ((hv.cj (i + 1 + t) (by omega) i (by omega)).2 k hk).2.2 h)) _ z) _
end Go.Proofs.Pc
namespace Go.Proofs.Pc
theorem iter_hom {α β : Type} {φ : α → β} {f : α → α} {g : β → β} {p : α → Prop} (hp : ∀ z, p z → p (f z)) (h : ∀ z, p z → φ (f z) = g (φ z)) : ∀ (n : Nat) (z : α), p z → φ (iter f n z) = iter g n (φ z)
  | 0, _, _ => rfl
  | n + 1, z, hz => by
    show φ (f (iter f n z)) = g (iter g n (φ z))
    rw [h _ (iter_inv hp n z hz), iter_hom hp h n z hz]
theorem foldTo_hom {α β : Type} {φ : α → β} {f : Nat → α → α} {g : Nat → β → β} {p : α → Prop} : ∀ (n : Nat) (_ : ∀ k z, k < n → p z → p (f k z)) (_ : ∀ k z, k < n → p z → φ (f k z) = g k (φ z)) (z : α), p z → φ (foldTo f n z) = foldTo g n (φ z)
  | 0, _, _, _, _ => rfl
  | n + 1, hp, h, z, hz => by
    show φ (f n (foldTo f n z)) = g n (foldTo g n (φ z))
    rw [h n _ (by omega) (foldTo_inv n (fun k x hk => hp k x (by omega)) z hz), foldTo_hom n (fun k z hk => hp k z (by omega)) (fun k z hk => h k z (by omega)) z hz]
theorem foldTo_id {α : Type} {f : Nat → α → α} : ∀ {n : Nat} (_ : ∀ k z, k < n → f k z = z) (z : α), foldTo f n z = z
  | 0, _, _ => rfl
  | n + 1, h, z => by show f n (foldTo f n z) = z; rw [foldTo_id (fun k z hk => h k z (by omega)), h n z (by omega)]
theorem foldTo_shift {α : Type} {f : Nat → α → α} {s : Nat} (h : ∀ k z, k < s → f k z = z) : ∀ (r : Nat) (z : α), foldTo f (s + r) z = foldTo (fun t => f (s + t)) r z
  | 0, z => foldTo_id h z
  | r + 1, z => by show f (s + r) (foldTo f (s + r) z) = f (s + r) (foldTo _ r z); rw [foldTo_shift h r z]
theorem foldTo_split {α : Type} (f : Nat → α → α) (s : Nat) : ∀ (r : Nat) (z : α), foldTo f (s + r) z = foldTo (fun t => f (s + t)) r (foldTo f s z)
  | 0, _ => rfl
  | r + 1, z => by show f (s + r) (foldTo f (s + r) z) = f (s + r) (foldTo _ r _); rw [foldTo_split f s r z]
theorem iter_succ' {α : Type} (f : α → α) : ∀ (n : Nat) (z : α), iter f (n + 1) z = iter f n (f z)
  | 0, _ => rfl
  | n + 1, z => by show f (iter f (n + 1) z) = f (iter f n (f z)); rw [iter_succ' f n z]
theorem iter_add {α : Type} (f : α → α) (m : Nat) : ∀ (n : Nat) (z : α), iter f (n + m) z = iter f n (iter f m z)
  | 0, z => by rw [Nat.zero_add]; rfl
  | n + 1, z => by rw [show n + 1 + m = (n + m) + 1 by omega]; show f (iter f (n + m) z) = f (iter f n (iter f m z)); rw [iter_add f m n z]
def zV (P : PcD) : V := List.replicate P.n 0
theorem getD_zV (P : PcD) (k : Nat) : (zV P).getD k 0 = 0 := by
  unfold zV
  rw [List.getD_eq_getElem?_getD, List.getElem?_replicate]
  split <;> rfl
theorem length_zV (P : PcD) : (zV P).length = P.n := by simp [zV]
section
variable {P : PcD} (hv : Valid P)
include hv
theorem NV_z : NV P (zV P) := ⟨length_zV P, fun k hk => by rw [getD_zV]; have := hv.ord2 k hk; omega⟩
theorem T_NV {i : Nat} {x : V} (hi : i < P.n) (hx : NV P x) : NV P (T P i x) := timesF_NV hv _ i x hi hx
omit hv in
theorem T_len (i : Nat) {x : V} (hx : x.length = P.n) : (T P i x).length = P.n := (timesF_len P _ i x).trans hx
omit hv in
theorem mul_len {x : V} (y : V) (hx : x.length = P.n) : (mulP P x y).length = P.n := byF_len (fun k _z hz => T_len k hz) _ _ _ hx
theorem T_J {i m : Nat} (u : V) {x : V} (hm : m ≤ i) (hi : i < P.n) (hx : x.length = P.n) : T P i (J P.n m u x) = J P.n m u (T P i x) := timesF_J hv _ i m u x hm hi hx
theorem mul_J {m : Nat} (u : V) {x y : V} (hy : ∀ k, k < P.n → k < m → y.getD k 0 = 0) (hx : x.length = P.n) : mulP P (J P.n m u x) y = J P.n m u (mulP P x y) :=
  byF_J (fun k _z hz => T_len k hz) (fun _k _z hk hmk hz => T_J hv u hmk hk hz) hy x hx
omit hv in
theorem NV_J {m : Nat} {u x : V} (hu : NV P u) (hx : NV P x) : NV P (J P.n m u x) :=
  ⟨length_J _ _ _ _, fun k hk => by
    rw [getD_J, if_pos hk]
    by_cases h : k < m
    · rw [if_pos h]; exact hu.2 k hk
    · rw [if_neg h]; exact hx.2 k hk⟩
/-- normal, and nothing below m -/
def G (P : PcD) (m : Nat) (x : V) : Prop := NV P x ∧ ∀ k, k < P.n → k < m → x.getD k 0 = 0
omit hv in
theorem G.mono {m m' : Nat} {x : V} (h : G P m x) (hm : m' ≤ m) : G P m' x := ⟨h.1, fun k hk hkm => h.2 k hk (by omega)⟩
omit hv in
theorem G.norm {m : Nat} {y : V} (h : Norm P y m) : G P m y := ⟨norm_NV h, fun k hk hkm => (h.2 k hk).2.2 hkm⟩
theorem G_z (m : Nat) : G P m (zV P) := ⟨NV_z hv, fun k _ _ => getD_zV P k⟩
omit hv in
theorem G_J {m : Nat} {x : V} (h : G P m x) : J P.n m (zV P) x = x := ext_len (length_J _ _ _ _) h.1.1 fun k hk => by
  rw [getD_J, if_pos hk]
  by_cases e : k < m
  · rw [if_pos e, getD_zV, h.2 k hk e]
  · rw [if_neg e]
theorem G_tail (m : Nat) {x : V} (hx : NV P x) : G P m (J P.n m (zV P) x) := ⟨NV_J (NV_z hv) hx, fun k hk hkm => by rw [getD_J, if_pos hk, if_pos hkm, getD_zV]⟩
theorem G_T {m i : Nat} {x : V} (h : G P m x) (hm : m ≤ i) (hi : i < P.n) : G P m (T P i x) := by
  have e : T P i x = J P.n m (zV P) (T P i x) := by
    conv => lhs; rw [← G_J h, T_J hv _ hm hi h.1.1]
  rw [e]
  exact G_tail hv m (T_NV hv hi h.1)
theorem G_mul {m : Nat} {x y : V} (h : G P m x) (hy : G P m y) : G P m (mulP P x y) := by
  have e : mulP P x y = J P.n m (zV P) (mulP P x y) := by
    conv => lhs; rw [← G_J h, mul_J hv _ hy.2 h.1.1]
  rw [e]
  exact G_tail hv m (mulP_NV hv h.1)
theorem G_unit {k m : Nat} (_hk : k < P.n) (hm : m ≤ k) {e : Int} (h0 : 0 ≤ e) (h1 : e < P.ord k) : G P m (uP P k e) :=
  ⟨uP_NV hv h0 (fun _ => h1), fun j hj hjm => by rw [getD_uP, if_neg (by omega)]⟩
omit hv in
theorem mul_zero (x : V) : mulP P x (zV P) = x := by
  rw [mulP_def]
  exact foldTo_id (fun k z hk => by rw [getD_zV]; rfl) x
omit hv in
theorem sig_zero {i : Nat} {a : V} (h : ∀ k, i < k → k < P.n → a.getD k 0 = 0) (z : V) : sig P i a z = z :=
  foldTo_id (fun t z ht => by rw [h (i + 1 + t) (by omega) (by omega)]; rfl) z
/-- a generator on a list that ends there -/
theorem T_pure {i : Nat} {x : V} (hi : i < P.n) (hx : x.length = P.n) (h0 : ∀ k, i < k → k < P.n → x.getD k 0 = 0) (ho : x.getD i 0 + 1 ≠ P.ord i) : T P i x = x.set i (x.getD i 0 + 1) := by
  rw [T_eq hv hi, if_neg ho, sig_zero h0]
  refine ext_len (N := P.n) (by rw [length_bump]; exact hx) (by simpa using hx) fun k hk => ?_
  rw [getD_bump x i k (by omega), getD_set]
  by_cases e : k = i
  · subst e; simp [hx, hi]
  · by_cases h : k < i
    · simp [e, h, Ne.symm e]
    · rw [if_neg e, if_neg h, if_neg (fun hh => e hh.1.symm)]; exact (h0 k (by omega) hk).symm
theorem iter_T_pure {i : Nat} {x : V} (hi : i < P.n) (hx : x.length = P.n) (h0 : ∀ k, i < k → k < P.n → x.getD k 0 = 0) : ∀ (q : Nat), x.getD i 0 + (q : Int) < P.ord i → iter (T P i) q x = x.set i (x.getD i 0 + (q : Int))
  | 0, _ => by
    show x = _
    refine ext_len hx (by simpa using hx) fun k hk => ?_
    rw [getD_set]
    split
    · rename_i h; rw [h.1]; simp
    · rfl
  | q + 1, h => by
    show T P i (iter (T P i) q x) = _
    rw [iter_T_pure hi hx h0 q (by omega)]
    have hg : (x.set i (x.getD i 0 + (q : Int))).getD i 0 = x.getD i 0 + (q : Int) := by rw [getD_set, if_pos ⟨rfl, by omega⟩]
    rw [T_pure hv hi (by simpa using hx) (fun k hik hk => by rw [getD_set, if_neg (by omega)]; exact h0 k hik hk) (by rw [hg]; omega), hg]
    rw [List.set_set]
    congr 1
    push_cast
    omega
/-- nothing times a normal list -/
theorem zero_mul {y : V} (hy : NV P y) : mulP P (zV P) y = y := by
  have key : ∀ k, k ≤ P.n → foldTo (fun k z => iter (T P k) (y.getD k 0).toNat z) k (zV P) = J P.n k y (zV P) := by
    intro k
    induction k with
    | zero => intro _; exact (ext_len (length_J _ _ _ _) (length_zV P) fun j hj => by rw [getD_J, if_pos hj, if_neg (by omega)]).symm
    | succ k ih =>
      intro hk
      show iter (T P k) (y.getD k 0).toNat (foldTo _ k (zV P)) = _
      rw [ih (by omega)]
      have hyk := hy.2 k (by omega)
      have hg : (J P.n k y (zV P)).getD k 0 = 0 := by rw [getD_J, if_pos (by omega), if_neg (by omega), getD_zV]
      have hz : ∀ j, k < j → j < P.n → (J P.n k y (zV P)).getD j 0 = 0 := fun j hj hjn => by rw [getD_J, if_pos hjn, if_neg (by omega), getD_zV]
      rw [iter_T_pure hv (by omega) (length_J _ _ _ _) hz _ (by rw [hg]; omega), hg]
      refine ext_len (N := P.n) (by simp [length_J]) (length_J _ _ _ _) fun j hj => ?_
      rw [getD_set, getD_J, getD_J, length_J]
      by_cases e : k = j
      · subst e; rw [if_pos ⟨rfl, hj⟩, if_pos hj, if_pos (by omega)]; omega
      · by_cases h : j < k
        · simp [e, h, hj, show j < k + 1 by omega]
        · simp [e, h, hj, show ¬ j < k + 1 by omega]
  rw [mulP_def, key P.n (Nat.le_refl _)]
  exact ext_len (length_J _ _ _ _) hy.1 fun k hk => by rw [getD_J, if_pos hk, if_pos hk]
/-- a list that ends below m times one that begins there -/
theorem pure_mul {m : Nat} {u w : V} (hu : u.length = P.n) (hum : ∀ k, m ≤ k → k < P.n → u.getD k 0 = 0) (hw : G P m w) : mulP P u w = J P.n m u w := by
  have e : J P.n m u (zV P) = u := ext_len (length_J _ _ _ _) hu fun k hk => by
    rw [getD_J, if_pos hk]
    by_cases h : k < m
    · rw [if_pos h]
    · rw [if_neg h, getD_zV, hum k (by omega) hk]
  conv => lhs; rw [← e]
  rw [mul_J hv _ hw.2 (length_zV P), zero_mul hv hw.1]
omit hv in
theorem mul_unit {k : Nat} (hk : k < P.n) (x : V) : mulP P x (uP P k 1) = T P k x := by
  rw [mulP_def, show P.n = k + (1 + (P.n - (k + 1))) by omega]
  rw [foldTo_shift (s := k) (fun j z hj => by rw [getD_uP, if_neg (by omega)]; rfl), Nat.add_comm 1, foldTo]
  have : ∀ j z, j < P.n - (k + 1) → iter (T P (k + (j + 1))) ((uP P k 1).getD (k + (j + 1)) 0).toNat z = z := fun j z hj => by rw [getD_uP, if_neg (by omega)]; rfl
  have h2 : ∀ (r : Nat) (z : V), r ≤ P.n - (k + 1) → foldTo (fun t => fun z => iter (T P (k + t)) ((uP P k 1).getD (k + t) 0).toNat z) (r + 1) z = T P k z := by
    intro r
    induction r with
    | zero =>
      intro z _
      show iter (T P (k + 0)) ((uP P k 1).getD (k + 0) 0).toNat z = _
      rw [Nat.add_zero, getD_uP, if_pos ⟨rfl, hk⟩]; rfl
    | succ r ih =>
      intro z hr
      show iter (T P (k + (r + 1))) _ (foldTo _ (r + 1) z) = _
      rw [ih z (by omega), this r _ (by omega)]
  have := h2 (P.n - (k + 1)) x (Nat.le_refl _)
  exact this
/-- associativity for second factors that begin at m -/
def Assoc (P : PcD) (m : Nat) : Prop := ∀ x y k, NV P x → G P m y → m ≤ k → k < P.n → mulP P x (T P k y) = T P k (mulP P x y)
omit hv in
theorem Assoc.mono {m m' : Nat} (h : Assoc P m) (hm : m ≤ m') : Assoc P m' := fun x y k hx hy hk hkn => h x y k hx (hy.mono hm) (by omega) hkn
theorem assoc3 {m : Nat} (hA : Assoc P m) {x y z : V} (hx : NV P x) (hy : G P m y) (hz : G P m z) : mulP P x (mulP P y z) = mulP P (mulP P x y) z := by
  rw [mulP_def P y z, mulP_def P (mulP P x y) z]
  refine foldTo_hom (p := G P m) P.n (fun k w hk hw => ?_) (fun k w hk hw => ?_) y hy
  · rcases Nat.lt_or_ge k m with h | h
    · rw [hz.2 k hk h]; exact hw
    · exact iter_inv (p := G P m) (fun w hw => G_T hv hw h hk) _ w hw
  · rcases Nat.lt_or_ge k m with h | h
    · rw [hz.2 k hk h]; rfl
    · exact iter_hom (p := G P m) (fun w hw => G_T hv hw h hk) (fun w hw => hA x w k hx hw h hk) _ w hw
end
end Go.Proofs.Pc
namespace Go.Proofs.Pc
/-- the fold of a list: f k, as often as the list says, for k ascending -/
def E (n : Nat) (f : Nat → V → V) (a z : V) : V := foldTo (fun k z => iter (f k) (a.getD k 0).toNat z) n z
theorem mulP_E (P : PcD) (x y : V) : mulP P x y = E P.n (T P) y x := rfl
/-- right factors -/
def rt (P : PcD) (s : Nat → V) (k : Nat) (z : V) : V := mulP P z (s k)
section
variable {P : PcD} (hv : Valid P)
omit hv
theorem E_inv {n m : Nat} {f : Nat → V → V} {a z : V} {p : V → Prop} (ha : ∀ k, k < n → k < m → a.getD k 0 = 0) (hf : ∀ k z, k < n → m ≤ k → p z → p (f k z)) (hz : p z) : p (E n f a z) :=
  foldTo_inv n (fun k z hk hz => by
    rcases Nat.lt_or_ge k m with h | h
    · rw [ha k hk h]; exact hz
    · exact iter_inv (fun z hz => hf k z hk h hz) _ z hz) z hz
theorem E_hom {n m : Nat} {f g : Nat → V → V} {a z : V} {p : V → Prop} {φ : V → V} (ha : ∀ k, k < n → k < m → a.getD k 0 = 0) (hp : ∀ k z, k < n → m ≤ k → p z → p (f k z)) (h : ∀ k z, k < n → m ≤ k → p z → φ (f k z) = g k (φ z)) (hz : p z) : φ (E n f a z) = E n g a (φ z) :=
  foldTo_hom (p := p) n (fun k z hk hz => by
    rcases Nat.lt_or_ge k m with h | h
    · rw [ha k hk h]; exact hz
    · exact iter_inv (fun z hz => hp k z hk h hz) _ z hz) (fun k z hk hz => by
    rcases Nat.lt_or_ge k m with h' | h'
    · rw [ha k hk h']; rfl
    · exact iter_hom (p := p) (fun z hz => hp k z hk h' hz) (fun z hz => h k z hk h' hz) _ z hz) z hz
theorem E_zero {n : Nat} {f : Nat → V → V} {a z : V} (ha : ∀ k, k < n → a.getD k 0 = 0) : E n f a z = z := foldTo_id (fun k z hk => by rw [ha k hk]; rfl) z
/-- what stands from m on -/
def tl (P : PcD) (m : Nat) (x : V) : V := J P.n m (zV P) x
theorem getD_tl (m : Nat) (x : V) (k : Nat) : (tl P m x).getD k 0 = if k < P.n ∧ m ≤ k then x.getD k 0 else 0 := by
  unfold tl
  rw [getD_J, getD_zV]
  by_cases h : k < P.n
  · by_cases h2 : k < m
    · rw [if_pos h, if_pos h2, if_neg (by omega)]
    · rw [if_pos h, if_neg h2, if_pos ⟨h, by omega⟩]
  · rw [if_neg h, if_neg (by omega)]
theorem E_head {f : Nat → V → V} {m : Nat} (hm : m < P.n) {a z : V} (ha : ∀ k, k < P.n → k < m → a.getD k 0 = 0) : E P.n f a z = E P.n f (tl P (m + 1) a) (iter (f m) (a.getD m 0).toNat z) := by
  obtain ⟨r, hr⟩ : ∃ r, P.n = (m + 1) + r := ⟨P.n - (m + 1), by omega⟩
  have e1 : E P.n f a z = foldTo (fun t => (fun k z => iter (f k) (a.getD k 0).toNat z) (m + 1 + t)) r (iter (f m) (a.getD m 0).toNat z) := by
    unfold E
    rw [hr, foldTo_split]
    congr 1
    show iter (f m) _ (foldTo _ m z) = _
    rw [foldTo_id (fun k z hk => by show iter (f k) _ z = z; rw [ha k (by omega) hk]; rfl)]
  have e2 : E P.n f (tl P (m + 1) a) (iter (f m) (a.getD m 0).toNat z) = foldTo (fun t => (fun k z => iter (f k) ((tl P (m + 1) a).getD k 0).toNat z) (m + 1 + t)) r (iter (f m) (a.getD m 0).toNat z) := by
    unfold E
    rw [hr, foldTo_shift]
    intro k z hk
    show iter (f k) ((tl P (m + 1) a).getD k 0).toNat z = z
    rw [getD_tl, if_neg (by omega)]; rfl
  rw [e1, e2]
  refine foldTo_congr r (fun t z ht => ?_) _
  show iter _ _ z = iter _ _ z
  rw [getD_tl, if_pos (by omega)]
include hv
theorem G_tl (m : Nat) {x : V} (hx : NV P x) : G P m (tl P m x) := G_tail hv m hx
omit hv in
theorem tl_self {m : Nat} {x : V} (h : G P m x) : tl P m x = x := G_J h
omit hv in
theorem tl_J (m : Nat) (u : V) {x : V} (hx : G P m x) : tl P m (J P.n m u x) = x := ext_len (length_J _ _ _ _) hx.1.1 fun k hk => by
  rw [getD_tl, getD_J]
  by_cases h : m ≤ k
  · rw [if_pos ⟨hk, h⟩, if_pos hk, if_neg (by omega)]
  · rw [if_neg (by omega), hx.2 k hk (by omega)]
omit hv in
theorem J_tl (m : Nat) {x : V} (hx : x.length = P.n) : J P.n m x (tl P m x) = x := ext_len (length_J _ _ _ _) hx fun k hk => by
  rw [getD_J, if_pos hk, getD_tl]
  by_cases h : k < m
  · rw [if_pos h]
  · rw [if_neg h, if_pos ⟨hk, by omega⟩]
theorem tl_T {m k : Nat} (hmk : m ≤ k) (hk : k < P.n) {x : V} (hx : NV P x) : tl P m (T P k x) = T P k (tl P m x) := by
  have h := G_tl hv m hx
  conv => lhs; rw [← J_tl m hx.1, T_J hv x hmk hk h.1.1]
  exact tl_J m x (G_T hv h hmk hk)
theorem T_low {m k j : Nat} (hmk : m ≤ k) (hk : k < P.n) (hj : j < m) {x : V} (hx : NV P x) : (T P k x).getD j 0 = x.getD j 0 := by
  conv => lhs; rw [← J_tl m hx.1, T_J hv x hmk hk (G_tl hv m hx).1.1]
  rw [getD_J, if_pos (by omega), if_pos hj]
theorem mul_low {m j : Nat} (hj : j < m) (hjn : j < P.n) {x y : V} (hx : NV P x) (hy : G P m y) : (mulP P x y).getD j 0 = x.getD j 0 := by
  conv => lhs; rw [← J_tl m hx.1, mul_J hv x hy.2 (G_tl hv m hx).1.1]
  rw [getD_J, if_pos hjn, if_pos hj]
theorem tl_mul (m : Nat) {x y : V} (hx : NV P x) (hy : G P m y) : tl P m (mulP P x y) = mulP P (tl P m x) y := by
  have h := G_tl hv m hx
  conv => lhs; rw [← J_tl m hx.1, mul_J hv x hy.2 h.1.1]
  exact tl_J m x (G_mul hv h hy)
/-! one level -/
section
variable {i : Nat} (hi : i < P.n) (hA : Assoc P (i + 1))
omit hv in
theorem G_cj (hv : Valid P) {k : Nat} (hik : i < k) (hk : k < P.n) : G P (i + 1) (P.cj k i) := G.norm (hv.cj k hk i hik)
/-- the image of a list under conjugation by generator i -/
def ph (P : PcD) (i : Nat) (a : V) : V := E P.n (rt P fun k => P.cj k i) a (zV P)
omit hv in
theorem sig_E (hi : i < P.n) (a z : V) : sig P i a z = E P.n (rt P fun k => P.cj k i) (tl P (i + 1) a) z := by
  unfold sig E
  obtain ⟨r, hr⟩ : ∃ r, P.n = (i + 1) + r := ⟨P.n - (i + 1), by omega⟩
  rw [show P.n - (i + 1) = r by omega]
  conv => rhs; rw [hr]
  rw [foldTo_shift (s := i + 1) (fun k z hk => by show iter _ _ z = z; rw [getD_tl, if_neg (by omega)]; rfl)]
  exact foldTo_congr r (fun t z ht => by show iter _ _ z = iter _ _ z; rw [getD_tl, if_pos (by omega)]; rfl) z
include hA hi
omit hi hA in
theorem E_G {s : Nat → V} {m : Nat} (_hm : i + 1 ≤ m) (hs : ∀ k, m ≤ k → k < P.n → G P (i + 1) (s k)) {a z : V} (ha : ∀ k, k < P.n → k < m → a.getD k 0 = 0) (hz : G P (i + 1) z) : G P (i + 1) (E P.n (rt P s) a z) :=
  E_inv (p := G P (i + 1)) ha (fun k _z hk hmk hz => G_mul hv hz (hs k hmk hk)) hz
omit hi in
theorem E_mul {s : Nat → V} {m : Nat} (hs : ∀ k, m ≤ k → k < P.n → G P (i + 1) (s k)) {a z w : V} (ha : ∀ k, k < P.n → k < m → a.getD k 0 = 0) (hz : NV P z) (hw : G P (i + 1) w) : E P.n (rt P s) a (mulP P z w) = mulP P z (E P.n (rt P s) a w) :=
  (E_hom (φ := fun w => mulP P z w) (p := G P (i + 1)) ha (fun k _z hk hmk hz => G_mul hv hz (hs k hmk hk)) (fun k _w hk hmk hw => assoc3 hv hA hz hw (hs k hmk hk)) hw).symm
omit hi in
theorem E_mul' {s : Nat → V} {m : Nat} (hs : ∀ k, m ≤ k → k < P.n → G P (i + 1) (s k)) {a z : V} (ha : ∀ k, k < P.n → k < m → a.getD k 0 = 0) (hz : NV P z) : E P.n (rt P s) a z = mulP P z (E P.n (rt P s) a (zV P)) := by
  have := E_mul hv hA hs ha hz (G_z hv (i + 1))
  rwa [mul_zero] at this
omit hi hA in
theorem iter_G {s z : V} (hs : G P (i + 1) s) (hz : G P (i + 1) z) (n : Nat) : G P (i + 1) (iter (fun z => mulP P z s) n z) := iter_inv (p := G P (i + 1)) (fun _z hz => G_mul hv hz hs) n z hz
omit hi hA in
theorem ph_G {a : V} (ha : G P (i + 1) a) : G P (i + 1) (ph P i a) := E_G hv (Nat.le_refl _) (fun _k hk hkn => G_cj hv hk hkn) ha.2 (G_z hv _)
theorem sig_ph (a : V) {z : V} (hz : NV P z) : sig P i a z = mulP P z (ph P i (tl P (i + 1) a)) := by
  rw [sig_E hi]
  exact E_mul' hv hA (m := i + 1) (fun _k hk hkn => G_cj hv hk hkn) (fun k hk hkm => by rw [getD_tl, if_neg (by omega)]) hz
omit hi in
theorem ph_tail {m : Nat} (him : i + 1 ≤ m) (hm : m < P.n) {a : V} (ha : G P m a) : ph P i a = mulP P (iter (fun z => mulP P z (P.cj m i)) (a.getD m 0).toNat (zV P)) (ph P i (tl P (m + 1) a)) := by
  unfold ph
  rw [E_head hm ha.2]
  refine E_mul' hv hA (m := m + 1) (fun k hk hkn => G_cj hv (by omega) hkn) (fun k hk hkm => by rw [getD_tl, if_neg (by omega)]) ?_
  exact (iter_G hv (G_cj hv him hm) (G_z hv _) _).1
omit hv hi hA in
theorem ph_zV : ph P i (zV P) = zV P := E_zero fun k _ => getD_zV P k
omit hA in
theorem one_ne : (0 : Int) + 1 ≠ P.ord i := by have := hv.ord2 i hi; omega
omit hv hA in
theorem bump_H {h : V} (hh : G P (i + 1) h) : bump h i = uP P i 1 := ext_len (N := P.n) (by rw [length_bump]; exact hh.1.1) (by simp [uP]) fun k hk => by
  rw [getD_bump h i k (by rw [hh.1.1]; exact hi), getD_uP, hh.2 i hi (by omega)]
  by_cases e : k = i
  · simp [e, hi]
  · have e' : ¬ (k = i ∧ k < P.n) := fun h => e h.1
    rw [if_neg e, if_neg e']
    by_cases h2 : k < i
    · rw [if_pos h2]; exact hh.2 k hk (by omega)
    · rw [if_neg h2]
theorem T_H {h : V} (hh : G P (i + 1) h) : T P i h = mulP P (uP P i 1) (ph P i h) := by
  rw [T_eq hv hi, hh.2 i hi (by omega), if_neg (one_ne hv hi), bump_H hi hh, sig_ph hv hi hA, tl_self hh]
  exact uP_NV hv (by omega) (fun _ => by have := hv.ord2 i hi; omega)
omit hi hA in
theorem c_mul {w : V} (hw : G P (i + 1) w) : mulP P (uP P i 1) w = J P.n (i + 1) (uP P i 1) w :=
  pure_mul hv (by simp [uP]) (fun k hk hkn => by rw [getD_uP, if_neg (by omega)]) hw
omit hi hA in
theorem c_inj {a b : V} (ha : G P (i + 1) a) (hb : G P (i + 1) b) (h : mulP P (uP P i 1) a = mulP P (uP P i 1) b) : a = b := by
  rw [c_mul hv ha, c_mul hv hb] at h
  rw [← tl_J (i + 1) (uP P i 1) ha, h, tl_J (i + 1) (uP P i 1) hb]
omit hi hA in
theorem NV_c (i : Nat) : NV P (uP P i 1) := uP_NV hv (by omega) (fun h => by have := hv.ord2 i h; omega)
omit hi hA in
theorem G_c {k m : Nat} (hk : k < P.n) (hm : m ≤ k) : G P m (uP P k 1) := G_unit hv hk hm (by omega) (by have := hv.ord2 k hk; omega)
omit hi in
theorem ph_unit {k : Nat} (hik : i < k) (hk : k < P.n) {e : Int} (h0 : 0 ≤ e) (h1 : e < P.ord k) : ph P i (uP P k e) = iter (fun z => mulP P z (P.cj k i)) e.toNat (zV P) := by
  rw [ph_tail hv hA hik hk (G_unit hv hk (Nat.le_refl _) h0 h1), getD_uP, if_pos ⟨rfl, hk⟩]
  have : tl P (k + 1) (uP P k e) = zV P := ext_len (length_J _ _ _ _) (length_zV P) fun j hj => by
    rw [getD_tl, getD_uP, getD_zV]
    split
    · rw [if_neg (by omega)]
    · rfl
  rw [this, ph_zV, mul_zero]
omit hi in
theorem ph_c {k : Nat} (hik : i < k) (hk : k < P.n) : ph P i (uP P k 1) = P.cj k i := by
  rw [ph_unit hv hA hik hk (by omega) (by have := hv.ord2 k hk; omega)]
  exact zero_mul hv (G_cj hv hik hk).1
omit hv hA in
/-- x times what begins with one generator i -/
theorem mul_cw {x w : V} (hw : G P (i + 1) w) : mulP P x (J P.n (i + 1) (uP P i 1) w) = mulP P (T P i x) w := by
  have hz : ∀ k, k < P.n → k < i → (J P.n (i + 1) (uP P i 1) w).getD k 0 = 0 := fun k hk hki => by
    rw [getD_J, if_pos hk, if_pos (by omega), getD_uP, if_neg (by omega)]
  rw [mulP_E, E_head hi hz]
  have : tl P (i + 1) (J P.n (i + 1) (uP P i 1) w) = w := tl_J _ _ hw
  rw [this, getD_J, if_pos hi, if_pos (by omega), getD_uP, if_pos ⟨rfl, hi⟩]
  rfl
/-- what the overlaps say, above the generator -/
theorem rel_K {j k : Nat} (hij : i < j) (hjk : j < k) (hk : k < P.n) (h : (pK P i j k).1 = (pK P i j k).2) : ph P i (T P j (uP P k 1)) = mulP P (P.cj k i) (P.cj j i) := by
  have hj : j < P.n := by omega
  have hc := G_c hv hk (m := i + 1) (by omega)
  have hx : G P (i + 1) (T P j (uP P k 1)) := G_T hv hc hij hj
  unfold pK at h
  dsimp only at h
  rw [mul_unit hj, mul_unit hi, mul_unit hi, T_H hv hi hA hx, T_H hv hi hA (G_c hv hj hij), ph_c hv hA hij hj, c_mul hv (G_cj hv hij hj), mul_cw hi (G_cj hv hij hj), T_H hv hi hA hc, ph_c hv hA (by omega) hk,
    ← assoc3 hv hA (NV_c hv i) (G_cj hv (by omega) hk) (G_cj hv hij hj)] at h
  exact c_inj hv (ph_G hv hx) (G_mul hv (G_cj hv (by omega) hk) (G_cj hv hij hj)) h
theorem rel_J1 {j : Nat} (hij : i < j) (hj : j < P.n) (h : (pJ1 P i j).1 = (pJ1 P i j).2) : ph P i (P.pow j) = iter (fun z => mulP P z (P.cj j i)) (P.ord j).toNat (zV P) := by
  have hp : G P (i + 1) (P.pow j) := (G.norm (hv.pow j hj)).mono (by omega)
  have ho := hv.ord2 j hj
  have hu : G P (i + 1) (uP P j (P.ord j - 1)) := G_unit hv hj hij (by omega) (by omega)
  have hs := G_cj hv hij hj
  unfold pJ1 at h
  dsimp only at h
  rw [mul_unit hi, mul_unit hi, T_H hv hi hA hp, T_H hv hi hA (G_c hv hj hij), ph_c hv hA hij hj, c_mul hv hs, mul_cw hi hs, T_H hv hi hA hu, ph_unit hv hA hij hj (by omega) (by omega),
    ← assoc3 hv hA (NV_c hv i) (iter_G hv hs (G_z hv _) _) hs] at h
  rw [c_inj hv (ph_G hv hp) (G_mul hv (iter_G hv hs (G_z hv _) _) hs) h, show (P.ord j).toNat = (P.ord j - 1).toNat + 1 by omega]
  rfl
theorem rel_I (h : (pI P i).1 = (pI P i).2) : ph P i (P.pow i) = P.pow i := by
  have hp : G P (i + 1) (P.pow i) := G.norm (hv.pow i hi)
  unfold pI at h
  dsimp only at h
  rw [mul_unit hi, T_H hv hi hA hp] at h
  exact c_inj hv (ph_G hv hp) hp h
end
end
end Go.Proofs.Pc
namespace Go.Proofs.Pc
/-- what is known of the level i -/
structure Lev (P : PcD) (i : Nat) : Prop where
  hv : Valid P
  hi : i < P.n
  hA : Assoc P (i + 1)
  K : ∀ j k, i < j → j < k → k < P.n → (pK P i j k).1 = (pK P i j k).2
  J1 : ∀ j, i < j → j < P.n → (pJ1 P i j).1 = (pJ1 P i j).2
  J2 : ∀ j, i < j → j < P.n → (pJ2 P i j).1 = (pJ2 P i j).2
  I : (pI P i).1 = (pI P i).2
section
variable {P : PcD} {i : Nat} (h : Lev P i)
include h
theorem Lev.cj {k : Nat} (hik : i < k) (hk : k < P.n) : G P (i + 1) (P.cj k i) := G_cj h.hv hik hk
/-- conjugation keeps products with a generator, from m on -/
def HomT (P : PcD) (i m : Nat) : Prop := ∀ a k, G P m a → m ≤ k → k < P.n → ph P i (T P k a) = mulP P (ph P i a) (P.cj k i)
theorem Lev.hom {m : Nat} (him : i + 1 ≤ m) (hm : HomT P i m) {a b : V} (ha : G P m a) (hb : G P m b) : ph P i (mulP P a b) = mulP P (ph P i a) (ph P i b) := by
  rw [mulP_E P a b, E_hom (φ := ph P i) (p := G P m) (g := rt P fun k => P.cj k i) hb.2 (fun k z hk hmk hz => G_T h.hv hz hmk hk) (fun k z hk hmk hz => hm z k hz hmk hk) ha]
  exact E_mul' h.hv h.hA (m := i + 1) (fun k hk hkn => h.cj hk hkn) (fun k hk hkm => hb.2 k hk (by omega)) (ph_G h.hv (ha.mono him)).1
theorem Lev.conj {m k : Nat} (him : i < m) (hmk : m < k) (hk : k < P.n) : mulP P (P.cj k i) (P.cj m i) = mulP P (P.cj m i) (ph P i (P.cj k m)) := by
  have hm : m < P.n := by omega
  have hx : G P (m + 1) (uP P k 1) := G_c h.hv hk hmk
  have hc : G P (m + 1) (P.cj k m) := G_cj h.hv hmk hk
  rw [← rel_K h.hv h.hi h.hA him hmk hk (h.K m k him hmk hk)]
  have e1 : T P m (uP P k 1) = J P.n (m + 1) (uP P m 1) (P.cj k m) := by
    rw [T_eq h.hv hm, hx.2 m hm (by omega), if_neg (one_ne h.hv hm), bump_H hm hx, sig_E hm, tl_self hx]
    rw [show E P.n (rt P fun k => P.cj k m) (uP P k 1) (uP P m 1) = mulP P (uP P m 1) (P.cj k m) from ?_, c_mul h.hv hc]
    rw [E_head hk (fun j hj hjk => by rw [getD_uP, if_neg (by omega)]), getD_uP, if_pos ⟨rfl, hk⟩]
    refine (E_zero fun j hj => ?_).trans rfl
    rw [getD_tl, getD_uP]
    split
    · rw [if_neg (by omega)]
    · rfl
  have hg : G P m (J P.n (m + 1) (uP P m 1) (P.cj k m)) := by rw [← e1]; exact G_T h.hv (hx.mono (by omega)) (Nat.le_refl _) hm
  rw [e1, ph_tail h.hv h.hA him hm hg, tl_J _ _ hc, getD_J, if_pos hm, if_pos (by omega), getD_uP, if_pos ⟨rfl, hm⟩]
  show mulP P (mulP P (zV P) (P.cj m i)) _ = _
  rw [zero_mul h.hv (h.cj him hm).1]
theorem Lev.star {m : Nat} (him : i < m) (hm : m < P.n) (hH : HomT P i (m + 1)) {t : V} (ht : G P (m + 1) t) :
    mulP P (ph P i t) (P.cj m i) = mulP P (P.cj m i) (ph P i (ph P m t)) := by
  have hs := h.cj him hm
  have e1 : mulP P (ph P i t) (P.cj m i) = E P.n (rt P fun k => ph P i (P.cj k m)) t (mulP P (zV P) (P.cj m i)) := by
    unfold ph
    refine E_hom (φ := fun z => mulP P z (P.cj m i)) (p := G P (i + 1)) (m := m + 1) ht.2 (fun k z hk hmk hz => G_mul h.hv hz (h.cj (by omega) hk)) (fun k z hk hmk hz => ?_) (G_z h.hv _)
    show mulP P (mulP P z (P.cj k i)) (P.cj m i) = mulP P (mulP P z (P.cj m i)) (ph P i (P.cj k m))
    rw [← assoc3 h.hv h.hA hz.1 (h.cj (by omega) hk) hs, h.conj him (by omega) hk, assoc3 h.hv h.hA hz.1 hs (ph_G h.hv ((G_cj h.hv (by omega) hk).mono (by omega)))]
  have e2 : ph P i (ph P m t) = E P.n (rt P fun k => ph P i (P.cj k m)) t (zV P) := by
    have := E_hom (n := P.n) (f := rt P fun k => P.cj k m) (g := rt P fun k => ph P i (P.cj k m)) (a := t) (z := zV P) (φ := ph P i) (p := G P (m + 1)) (m := m + 1) ht.2 (fun k z hk hmk hz => G_mul h.hv hz (G_cj h.hv (by omega) hk)) (fun k z hk hmk hz => h.hom (by omega) hH hz (G_cj h.hv (by omega) hk)) (G_z h.hv _)
    rw [ph_zV] at this
    exact this
  rw [e1, e2, zero_mul h.hv hs.1]
  exact E_mul' h.hv h.hA (m := m + 1) (fun k hk hkn => ph_G h.hv ((G_cj h.hv (by omega) hkn).mono (by omega))) ht.2 hs.1
theorem Lev.homT : ∀ (d m : Nat), P.n = m + d → i + 1 ≤ m → HomT P i m
  | 0, m, hd, _ => fun a k _ hmk hk => by omega
  | d + 1, m, hd, him => fun a k ha hmk hk => by
    have hm : m < P.n := by omega
    have hs := h.cj him hm
    have hH : HomT P i (m + 1) := Lev.homT d (m + 1) (by omega) (by omega)
    have hA := h.hA
    have ht := G_tl h.hv (m + 1) ha.1
    have hZ : G P (i + 1) (iter (fun z => mulP P z (P.cj m i)) (a.getD m 0).toNat (zV P)) := iter_G h.hv hs (G_z h.hv _) _
    have hpt : G P (i + 1) (ph P i (tl P (m + 1) a)) := ph_G h.hv (ht.mono (by omega))
    rw [ph_tail h.hv hA him hm ha]
    rcases Nat.lt_or_ge m k with hmk' | hmk'
    · rw [ph_tail h.hv hA him hm (G_T h.hv ha (by omega) hk), T_low h.hv (m := m + 1) (by omega) hk (by omega) ha.1, tl_T h.hv (by omega) hk ha.1, hH _ k ht (by omega) hk, assoc3 h.hv hA hZ.1 hpt (h.cj (by omega) hk)]
    · obtain rfl : k = m := by omega
      have hst := h.star (by omega) hm hH ht
      have hpp : G P (i + 1) (ph P i (ph P k (tl P (k + 1) a))) := ph_G h.hv ((ph_G h.hv ht).mono (by omega))
      have hnv := NV_z h.hv
      rw [← assoc3 h.hv hA hZ.1 hpt hs, hst, assoc3 h.hv hA hZ.1 hs hpp]
      have hak := ha.1.2 k hm
      have hpk : G P (k + 1) (ph P k (tl P (k + 1) a)) := ph_G h.hv ht
      rw [T_eq h.hv hm]
      by_cases ho : a.getD k 0 + 1 = P.ord k
      · have e0 : (bump a k).set k 0 = zV P := ext_len (N := P.n) (by simp [length_bump, ha.1.1]) (length_zV P) fun j hj => by
          rw [getD_set, getD_bump a k j (by rw [ha.1.1]; exact hm), getD_zV, length_bump, ha.1.1]
          by_cases e : k = j
          · rw [if_pos ⟨e, hm⟩]
          · rw [if_neg (fun hh => e hh.1), if_neg (Ne.symm e)]
            by_cases e2 : j < k
            · rw [if_pos e2]; exact ha.2 j hj e2
            · rw [if_neg e2]
        have hpw : G P (k + 1) (P.pow k) := G.norm (h.hv.pow k hm)
        rw [if_pos ho, e0, zero_mul h.hv hpw.1, sig_ph h.hv hm (hA.mono (by omega)) a hpw.1, h.hom (by omega) hH hpw hpk, rel_J1 h.hv h.hi hA (by omega) hm (h.J1 k (by omega) hm),
          show (P.ord k).toNat = (a.getD k 0).toNat + 1 by omega]
        show mulP P (mulP P _ (P.cj k i)) _ = _
        rw [← assoc3 h.hv hA hZ.1 hs hpp]
      · have hlo : ∀ j, j < P.n → k < j → (bump a k).getD j 0 = 0 := fun j hj hkj => by rw [getD_bump a k j (by rw [ha.1.1]; exact hm), if_neg (by omega), if_neg (by omega)]
        have hbk : (bump a k).getD k 0 = a.getD k 0 + 1 := by rw [getD_bump a k k (by rw [ha.1.1]; exact hm), if_pos rfl]
        have hb : NV P (bump a k) := ⟨by rw [length_bump]; exact ha.1.1, fun j hj => by
          have h1 := ha.1.2 j hj
          rw [getD_bump a k j (by rw [ha.1.1]; exact hm)]
          by_cases e : j = k
          · subst e; rw [if_pos rfl]; omega
          · rw [if_neg e]
            split
            · exact h1
            · omega⟩
        have hbG : G P k (bump a k) := ⟨hb, fun j hj hjk => by rw [getD_bump a k j (by rw [ha.1.1]; exact hm), if_neg (by omega), if_pos hjk]; exact ha.2 j hj hjk⟩
        rw [if_neg ho, sig_ph h.hv hm (hA.mono (by omega)) a hb]
        have hX : G P k (mulP P (bump a k) (ph P k (tl P (k + 1) a))) := G_mul h.hv hbG (hpk.mono (by omega))
        rw [ph_tail h.hv hA him hm hX, mul_low h.hv (m := k + 1) (by omega) hm hb hpk, hbk, tl_mul h.hv (k + 1) hb hpk, show (a.getD k 0 + 1).toNat = (a.getD k 0).toNat + 1 by omega,
          show tl P (k + 1) (bump a k) = zV P from ext_len (length_J _ _ _ _) (length_zV P) fun j hj => by
            rw [getD_tl, getD_zV]
            split
            · exact hlo j hj (by omega)
            · rfl, zero_mul h.hv hpk.1]
        show mulP P (mulP P _ (P.cj k i)) _ = _
        rw [← assoc3 h.hv hA hZ.1 hs hpp]
end
end Go.Proofs.Pc
namespace Go.Proofs.Pc
theorem J_congr {N m : Nat} {u v x : V} (h : ∀ k, k < N → k < m → u.getD k 0 = v.getD k 0) : J N m u x = J N m v x := ext_len (length_J _ _ _ _) (length_J _ _ _ _) fun k hk => by
  rw [getD_J, getD_J, if_pos hk, if_pos hk]
  by_cases e : k < m
  · rw [if_pos e, if_pos e]; exact h k hk e
  · rw [if_neg e, if_neg e]
theorem iter_hom2 {f : V → V} {p : V → Prop} {P : PcD} (hp : ∀ z, p z → p (f z)) (h : ∀ a b, p a → p b → f (mulP P a b) = mulP P (f a) (f b)) : ∀ (n : Nat) (a b : V), p a → p b → iter f n (mulP P a b) = mulP P (iter f n a) (iter f n b)
  | 0, _, _, _, _ => rfl
  | n + 1, a, b, ha, hb => by
    show f (iter f n _) = mulP P (f (iter f n a)) (f (iter f n b))
    rw [iter_hom2 hp h n a b ha hb, h _ _ (iter_inv hp n a ha) (iter_inv hp n b hb)]
section
variable {P : PcD} {i : Nat} (h : Lev P i)
include h
theorem Lev.homi {a b : V} (ha : G P (i + 1) a) (hb : G P (i + 1) b) : ph P i (mulP P a b) = mulP P (ph P i a) (ph P i b) :=
  h.hom (Nat.le_refl _) (h.homT (P.n - (i + 1)) (i + 1) (by have := h.hi; omega) (Nat.le_refl _)) ha hb
theorem Lev.gp : G P (i + 1) (P.pow i) := G.norm (h.hv.pow i h.hi)
theorem Lev.T1 {x : V} (hx : NV P x) (ho : x.getD i 0 + 1 ≠ P.ord i) : T P i x = J P.n (i + 1) (x.set i (x.getD i 0 + 1)) (ph P i (tl P (i + 1) x)) := by
  have hi := h.hi
  have hxi := hx.2 i hi
  have hb : NV P (bump x i) := ⟨by rw [length_bump]; exact hx.1, fun j hj => by
    have h1 := hx.2 j hj
    rw [getD_bump x i j (by rw [hx.1]; exact hi)]
    by_cases e : j = i
    · subst e; rw [if_pos rfl]; omega
    · rw [if_neg e]
      split
      · exact h1
      · omega⟩
  have hw : G P (i + 1) (ph P i (tl P (i + 1) x)) := ph_G h.hv (G_tl h.hv _ hx)
  rw [T_eq h.hv hi, if_neg ho, sig_ph h.hv hi h.hA x hb, pure_mul h.hv hb.1 (fun k hk hkn => by rw [getD_bump x i k (by rw [hx.1]; exact hi), if_neg (by omega), if_neg (by omega)]) hw]
  refine J_congr fun k hk hki => ?_
  rw [getD_bump x i k (by rw [hx.1]; exact hi), getD_set]
  by_cases e : k = i
  · rw [if_pos e, if_pos ⟨e.symm, by rw [hx.1]; exact hi⟩]
  · rw [if_neg e, if_pos (by omega), if_neg (fun hh => e hh.1.symm)]
theorem Lev.T2 {x : V} (hx : NV P x) (ho : x.getD i 0 + 1 = P.ord i) : T P i x = J P.n (i + 1) (x.set i 0) (mulP P (P.pow i) (ph P i (tl P (i + 1) x))) := by
  have hi := h.hi
  have hl : ((bump x i).set i 0).length = P.n := by simp [length_bump, hx.1]
  have hg : ∀ k, k < P.n → ((bump x i).set i 0).getD k 0 = if k < i then x.getD k 0 else 0 := fun k hk => by
    rw [getD_set, getD_bump x i k (by rw [hx.1]; exact hi), length_bump, hx.1]
    by_cases e : i = k
    · rw [if_pos ⟨e, hi⟩, if_neg (by omega)]
    · rw [if_neg (fun hh => e hh.1), if_neg (Ne.symm e)]
  have hb : NV P ((bump x i).set i 0) := ⟨hl, fun j hj => by
    have h1 := hx.2 j hj
    rw [hg j hj]
    split
    · exact h1
    · omega⟩
  have hw : G P (i + 1) (ph P i (tl P (i + 1) x)) := ph_G h.hv (G_tl h.hv _ hx)
  have hp := h.gp
  rw [T_eq h.hv hi, if_pos ho, sig_ph h.hv hi h.hA x (mulP_NV h.hv hb), pure_mul h.hv hl (fun k hk hkn => by rw [hg k hkn, if_neg (by omega)]) hp, mul_J h.hv _ hw.2 hp.1.1]
  refine J_congr fun k hk hki => ?_
  rw [hg k hk, getD_set]
  by_cases e : i = k
  · rw [if_neg (by omega), if_pos ⟨e, by rw [hx.1]; exact hi⟩]
  · rw [if_pos (by omega), if_neg (fun hh => e hh.1)]
theorem Lev.FB {x y : V} (hx : NV P x) (hy : G P (i + 1) y) : T P i (mulP P x y) = mulP P (T P i x) (ph P i y) := by
  have hi := h.hi
  have ht := G_tl h.hv (i + 1) hx
  have hlow : ∀ k, k < i + 1 → k < P.n → (mulP P x y).getD k 0 = x.getD k 0 := fun k hk hkn => mul_low h.hv hk hkn hx hy
  have hb : bump (mulP P x y) i = bump x i := ext_len (N := P.n) (by rw [length_bump]; exact mul_len y hx.1) (by rw [length_bump]; exact hx.1) fun k hk => by
    rw [getD_bump _ i k (by rw [mul_len y hx.1]; exact hi), getD_bump _ i k (by rw [hx.1]; exact hi), hlow i (by omega) hi]
    by_cases e : k = i
    · rw [if_pos e, if_pos e]
    · rw [if_neg e, if_neg e]
      by_cases e2 : k < i
      · rw [if_pos e2, if_pos e2]; exact hlow k (by omega) hk
      · rw [if_neg e2, if_neg e2]
  have hS : NV P (if x.getD i 0 + 1 = P.ord i then mulP P ((bump x i).set i 0) (P.pow i) else bump x i) := by
    have hxi := hx.2 i hi
    have hbb : ∀ v : Int, 0 ≤ v → v < P.ord i → NV P ((bump x i).set i v) := fun v h0 h1 => ⟨by simp [length_bump, hx.1], fun j hj => by
      have h2 := hx.2 j hj
      rw [getD_set, getD_bump x i j (by rw [hx.1]; exact hi), length_bump, hx.1]
      by_cases e : i = j
      · subst e; rw [if_pos ⟨rfl, hi⟩]; exact ⟨h0, h1⟩
      · rw [if_neg (fun hh => e hh.1), if_neg (Ne.symm e)]
        split
        · exact h2
        · omega⟩
    split
    · exact mulP_NV h.hv (hbb 0 (by omega) (by omega))
    · rename_i e
      have := hbb (x.getD i 0 + 1) (by omega) (by omega)
      rwa [show (bump x i).set i (x.getD i 0 + 1) = bump x i from ext_len (N := P.n) (by simp [length_bump, hx.1]) (by rw [length_bump]; exact hx.1) fun k hk => by
        rw [getD_set, getD_bump x i k (by rw [hx.1]; exact hi), length_bump, hx.1]
        by_cases e : i = k
        · rw [if_pos ⟨e, hi⟩, if_pos e.symm]
        · rw [if_neg (fun hh => e hh.1)]] at this
  rw [T_eq h.hv hi, T_eq h.hv hi, hb, hlow i (by omega) hi, sig_ph h.hv hi h.hA _ hS, sig_ph h.hv hi h.hA _ hS, tl_mul h.hv (i + 1) hx hy, h.homi ht hy,
    assoc3 h.hv h.hA hS (ph_G h.hv ht) (ph_G h.hv hy)]
theorem Lev.phk {a : V} (ha : G P (i + 1) a) (q : Nat) : G P (i + 1) (iter (ph P i) q a) := iter_inv (p := G P (i + 1)) (fun _ hz => ph_G h.hv hz) q a ha
theorem Lev.it1 {x : V} (hx : NV P x) : ∀ (q : Nat), x.getD i 0 + (q : Int) < P.ord i → iter (T P i) q x = J P.n (i + 1) (x.set i (x.getD i 0 + (q : Int))) (iter (ph P i) q (tl P (i + 1) x))
  | 0, _ => by
    show x = J P.n (i + 1) _ (tl P (i + 1) x)
    conv => lhs; rw [← J_tl (i + 1) hx.1]
    refine J_congr fun k hk hki => ?_
    rw [getD_set]
    by_cases e : i = k ∧ i < x.length
    · rw [if_pos e, e.1]; simp
    · rw [if_neg e]
  | q + 1, hq => by
    have hi := h.hi
    show T P i (iter (T P i) q x) = _
    have hn : NV P (iter (T P i) q x) := iter_inv (p := NV P) (fun z hz => T_NV h.hv hi hz) q x hx
    rw [Lev.it1 hx q (by omega)] at hn ⊢
    have hg : (J P.n (i + 1) (x.set i (x.getD i 0 + (q : Int))) (iter (ph P i) q (tl P (i + 1) x))).getD i 0 = x.getD i 0 + (q : Int) := by
      rw [getD_J, if_pos hi, if_pos (by omega), getD_set, if_pos ⟨rfl, by rw [hx.1]; exact hi⟩]
    rw [h.T1 hn (by rw [hg]; omega), hg, tl_J _ _ (h.phk (G_tl h.hv _ hx) q)]
    show J _ _ _ (iter (ph P i) (q + 1) _) = _
    refine J_congr fun k hk hki => ?_
    rw [getD_set, getD_set, length_J, hx.1]
    by_cases e : i = k
    · rw [if_pos ⟨e, hi⟩, if_pos ⟨e, hi⟩]; push_cast; omega
    · rw [if_neg (fun hh => e hh.1), if_neg (fun hh => e hh.1), getD_J, if_pos hk, if_pos hki, getD_set, if_neg (fun hh => e hh.1)]
/-- the whole round of a generator -/
theorem Lev.it2 {x : V} (hx : NV P x) {q : Nat} (hq : x.getD i 0 + (q : Int) + 1 = P.ord i) : iter (T P i) (q + 1) x = J P.n (i + 1) (x.set i 0) (mulP P (P.pow i) (iter (ph P i) (q + 1) (tl P (i + 1) x))) := by
  have hi := h.hi
  show T P i (iter (T P i) q x) = _
  have hn : NV P (iter (T P i) q x) := iter_inv (p := NV P) (fun z hz => T_NV h.hv hi hz) q x hx
  rw [h.it1 hx q (by omega)] at hn ⊢
  have hg : (J P.n (i + 1) (x.set i (x.getD i 0 + (q : Int))) (iter (ph P i) q (tl P (i + 1) x))).getD i 0 = x.getD i 0 + (q : Int) := by
    rw [getD_J, if_pos hi, if_pos (by omega), getD_set, if_pos ⟨rfl, by rw [hx.1]; exact hi⟩]
  rw [h.T2 hn (by rw [hg]; omega), tl_J _ _ (h.phk (G_tl h.hv _ hx) q)]
  show J _ _ _ (mulP P _ (iter (ph P i) (q + 1) _)) = _
  refine J_congr fun k hk hki => ?_
  rw [getD_set, getD_set, length_J, hx.1]
  by_cases e : i = k
  · rw [if_pos ⟨e, hi⟩, if_pos ⟨e, hi⟩]
  · rw [if_neg (fun hh => e hh.1), if_neg (fun hh => e hh.1), getD_J, if_pos hk, if_pos hki, getD_set, if_neg (fun hh => e hh.1)]
theorem Lev.pc {j : Nat} (hij : i < j) (hj : j < P.n) : mulP P (P.pow i) (iter (ph P i) (P.ord i).toNat (uP P j 1)) = mulP P (uP P j 1) (P.pow i) := by
  have ho := h.hv.ord2 i h.hi
  have hc := G_c h.hv hj (m := i + 1) (by omega)
  have e := h.J2 j hij hj
  unfold pJ2 at e
  dsimp only at e
  have hc0 : (uP P j 1).getD i 0 = 0 := hc.2 i h.hi (by omega)
  obtain ⟨q, hq⟩ : ∃ q : Nat, (P.ord i).toNat = q + 1 := ⟨(P.ord i).toNat - 1, by omega⟩
  rw [hq] at e ⊢
  rw [← e]
  have := h.it2 hc.1 (q := q) (by rw [hc0]; omega)
  rw [tl_self hc] at this
  refine Eq.symm (Eq.trans this ?_)
  have hg : G P (i + 1) (mulP P (P.pow i) (iter (ph P i) (q + 1) (uP P j 1))) := G_mul h.hv h.gp (h.phk hc _)
  conv => rhs; rw [← G_J hg]
  refine J_congr fun k hk hki => ?_
  rw [getD_set, getD_zV]
  split
  · rfl
  · exact hc.2 k hk hki
theorem Lev.pall {a : V} (ha : G P (i + 1) a) : mulP P (P.pow i) (iter (ph P i) (P.ord i).toNat a) = mulP P a (P.pow i) := by
  have hp := h.gp
  have hA := h.hA
  have key : G P (i + 1) (E P.n (T P) a (zV P)) ∧ mulP P (P.pow i) (iter (ph P i) (P.ord i).toNat (E P.n (T P) a (zV P))) = mulP P (E P.n (T P) a (zV P)) (P.pow i) := by
    refine E_inv (m := i + 1) (p := fun z => G P (i + 1) z ∧ mulP P (P.pow i) (iter (ph P i) (P.ord i).toNat z) = mulP P z (P.pow i)) ha.2 (fun k z hk hmk hz => ⟨G_T h.hv hz.1 hmk hk, ?_⟩) ⟨G_z h.hv _, ?_⟩
    · have hc := G_c h.hv hk hmk
      rw [← mul_unit hk, iter_hom2 (p := G P (i + 1)) (fun z hz => ph_G h.hv hz) (fun a b ha hb => h.homi ha hb) _ z _ hz.1 hc, assoc3 h.hv hA hp.1 (h.phk hz.1 _) (h.phk hc _), hz.2, ← assoc3 h.hv hA hz.1.1 hp (h.phk hc _), h.pc (by omega) hk,
        assoc3 h.hv hA hz.1.1 hc hp]
    · have e : ∀ q, iter (ph P i) q (zV P) = zV P := fun q => by
        induction q with
        | zero => rfl
        | succ q ih => show ph P i (iter _ q _) = _; rw [ih, ph_zV]
      rw [e, mul_zero, zero_mul h.hv hp.1]
  have := key.2
  rwa [← mulP_E P (zV P) a, zero_mul h.hv ha.1] at this
theorem Lev.FC {x : V} (hx : NV P x) : iter (T P i) (P.ord i).toNat x = mulP P x (P.pow i) := by
  have hi := h.hi
  have hxi := hx.2 i hi
  have ht := G_tl h.hv (i + 1) hx
  have hp := h.gp
  obtain ⟨a, ha⟩ := Int.eq_ofNat_of_zero_le hxi.1
  obtain ⟨q, hq⟩ : ∃ q : Nat, (P.ord i).toNat = a + (q + 1) := ⟨(P.ord i).toNat - 1 - a, by omega⟩
  have hall := h.pall ht
  rw [hq] at hall ⊢
  rw [iter_add, h.it2 hx (q := q) (by omega)]
  have hu : G P (i + 1) (mulP P (P.pow i) (iter (ph P i) (q + 1) (tl P (i + 1) x))) := G_mul h.hv hp (h.phk ht _)
  have hn2 : NV P (J P.n (i + 1) (x.set i 0) (mulP P (P.pow i) (iter (ph P i) (q + 1) (tl P (i + 1) x)))) := by
    rw [← h.it2 hx (q := q) (by omega)]
    exact iter_inv (p := NV P) (fun z hz => T_NV h.hv hi hz) _ x hx
  have hg : (J P.n (i + 1) (x.set i 0) (mulP P (P.pow i) (iter (ph P i) (q + 1) (tl P (i + 1) x)))).getD i 0 = 0 := by
    rw [getD_J, if_pos hi, if_pos (by omega), getD_set, if_pos ⟨rfl, by rw [hx.1]; exact hi⟩]
  rw [h.it1 hn2 a (by rw [hg]; omega), hg, tl_J _ _ hu, iter_hom2 (p := G P (i + 1)) (fun z hz => ph_G h.hv hz) (fun a b ha hb => h.homi ha hb) _ _ _ hp (h.phk ht _), ← iter_add]
  have ep : ∀ q, iter (ph P i) q (P.pow i) = P.pow i := fun q => by
    induction q with
    | zero => rfl
    | succ q ih => show ph P i (iter _ q _) = _; rw [ih]; exact rel_I h.hv hi h.hA h.I
  rw [ep, hall]
  conv => rhs; rw [← J_tl (i + 1) hx.1, mul_J h.hv x hp.2 ht.1.1]
  refine J_congr fun k hk hki => ?_
  rw [getD_set, length_J]
  by_cases e : i = k
  · rw [if_pos ⟨e, hi⟩, ← e, ha]; simp
  · rw [if_neg (fun hh => e hh.1), getD_J, if_pos hk, if_pos hki, getD_set, if_neg (fun hh => e hh.1)]
theorem Lev.down : Assoc P i := fun x y k hx hy hik hk => by
  have hi := h.hi
  have hA := h.hA
  have ht := G_tl h.hv (i + 1) hy.1
  have hX : ∀ q, NV P (iter (T P i) q x) := fun q => iter_inv (p := NV P) (fun z hz => T_NV h.hv hi hz) q x hx
  have hd : ∀ z, G P i z → mulP P x z = mulP P (iter (T P i) (z.getD i 0).toNat x) (tl P (i + 1) z) := fun z hz => E_head hi hz.2
  rw [hd y hy]
  rcases Nat.lt_or_ge i k with hik' | hik'
  · rw [hd _ (G_T h.hv hy hik hk), T_low h.hv (m := i + 1) hik' hk (by omega) hy.1, tl_T h.hv hik' hk hy.1]
    exact hA _ _ k (hX _) ht hik' hk
  · obtain rfl : k = i := by omega
    have hy0 := hy.1.2 k hi
    rw [h.FB (hX _) ht, hd _ (G_T h.hv hy hik hk)]
    by_cases ho : y.getD k 0 + 1 = P.ord k
    · have hw : G P (k + 1) (mulP P (P.pow k) (ph P k (tl P (k + 1) y))) := G_mul h.hv h.gp (ph_G h.hv ht)
      rw [h.T2 hy.1 ho, tl_J _ _ hw, getD_J, if_pos hi, if_pos (by omega), getD_set, if_pos ⟨rfl, by rw [hy.1.1]; exact hi⟩]
      show mulP P x _ = mulP P (iter (T P k) ((y.getD k 0).toNat + 1) x) _
      rw [assoc3 h.hv hA hx h.gp (ph_G h.hv ht), ← h.FC hx, show (P.ord k).toNat = (y.getD k 0).toNat + 1 by omega]
    · rw [h.T1 hy.1 ho, tl_J _ _ (ph_G h.hv ht), getD_J, if_pos hi, if_pos (by omega), getD_set, if_pos ⟨rfl, by rw [hy.1.1]; exact hi⟩, show (y.getD k 0 + 1).toNat = (y.getD k 0).toNat + 1 by omega]
      rfl
end
/-- every overlap of the list -/
theorem mem_ovK (P : PcD) {i j k m : Nat} (hj : j + 1 ≤ k) (hk : k < m) : pK P i j k ∈ ovK P i j m := by
  obtain ⟨s, hs⟩ := pre_ovK P (i := i) (j := j) (show k + 1 ≤ m by omega)
  rw [hs, ovK_succ P hj]; simp
theorem mem_ovl {P : PcD} {p : V × V} {pre : List (V × V)} (h : Pre (pre ++ [p]) (ovl P)) : p ∈ ovl P := by
  obtain ⟨s, hs⟩ := h
  rw [hs]; simp
theorem mem_I (P : PcD) {i : Nat} (hi : i < P.n) : pI P i ∈ ovl P := mem_ovl (pre_I P hi)
theorem mem_J (P : PcD) {i j : Nat} {p : V × V} (hij : i < j) (hj : j < P.n) (hp : p ∈ [pJ1 P i j, pJ2 P i j] ++ ovK P i j P.n) : p ∈ ovl P := by
  obtain ⟨s, hs⟩ := pre_J' P (i := i) (j := j) (x := [pJ1 P i j, pJ2 P i j] ++ ovK P i j P.n) (by omega) hij hj (Pre.refl _)
  rw [hs]
  simp only [List.mem_append] at hp ⊢
  exact .inl (.inr (.inr (.inr hp)))
theorem eq_of_eq12 {P : PcD} (hn : P.n ≤ 12) {x y : V} (hx : x.length = P.n) (hy : y.length = P.n) (h : eq12 x y = true) : x = y := ext_len hx hy fun k hk => by
  unfold eq12 at h
  rw [List.all_eq_true] at h
  have := h k (by simp; omega)
  simpa using this
theorem lev_of {P : PcD} (hv : Valid P) (hc : consB P = true) {i : Nat} (hi : i < P.n) (hA : Assoc P (i + 1)) : Lev P i := by
  have hc' : ∀ p, p ∈ ovl P → p.1.length = P.n → p.2.length = P.n → p.1 = p.2 := fun p hp h1 h2 => by
    unfold consB at hc
    rw [List.all_eq_true] at hc
    exact eq_of_eq12 hv.n12 h1 h2 (hc p hp)
  have hu : ∀ k e, (uP P k e).length = P.n := fun k e => by simp [uP]
  refine ⟨hv, hi, hA, fun j k hij hjk hk => hc' _ (mem_J P hij (by omega) (by simp [mem_ovK P (i := i) (j := j) (k := k) (m := P.n) (by omega) hk])) ?_ ?_,
    fun j hij hj => hc' _ (mem_J P hij hj (by simp)) ?_ ?_, fun j hij hj => hc' _ (mem_J P hij hj (by simp)) ?_ ?_, hc' _ (mem_I P hi) ?_ ?_⟩
  · exact mul_len _ (mul_len _ (hu _ _))
  · exact mul_len _ (hu _ _)
  · exact mul_len _ (hv.pow j hj).1
  · exact mul_len _ (hu _ _)
  · exact iter_inv (p := fun z : V => z.length = P.n) (fun z hz => T_len i hz) _ _ (hu _ _)
  · exact mul_len _ (hu _ _)
  · exact mul_len _ (hv.pow i hi).1
  · exact mul_len _ (hu _ _)
theorem assoc_of {P : PcD} (hv : Valid P) (hc : consB P = true) : ∀ (d i : Nat), P.n = i + d → Assoc P i
  | 0, i, h => fun x y k _ _ hk hkn => by omega
  | d + 1, i, h => (lev_of hv hc (by omega) (assoc_of hv hc d (i + 1) (by omega))).down
theorem mul_assoc {P : PcD} (hv : Valid P) (hc : consB P = true) {x y z : V} (hx : NV P x) (hy : NV P y) (hz : NV P z) : mulP P x (mulP P y z) = mulP P (mulP P x y) z :=
  assoc3 hv (assoc_of hv hc P.n 0 (by omega)) hx ⟨hy, fun k _ h => absurd h (Nat.not_lt_zero k)⟩ ⟨hz, fun k _ h => absurd h (Nat.not_lt_zero k)⟩
end Go.Proofs.Pc
