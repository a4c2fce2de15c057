/- Plain: inverses, powers and the order of an element of a consistent presentation; The contract of (*rules).inverse; The contracts of (*rules).period and (*rules).power; The contract of (*rules).power. -/
import Derived.Test.YtnhoiompdjabbaaB1
import Derived.Test.YtnhoiompdjabbaaA1
import Derived.Test.YtnhoiompdjabbaaA7
import Derived.Test.YtnhoiompdjabbaaA9
import Derived.Test.YtnhoiompdjabbaaA2
import Derived.Test.YtnhoiompdjabbaaA8
namespace Go.Proofs.Pc

section
variable {P : PcD} (hv : Valid P)
include hv
/-- the entry of the generator itself -/
theorem T_at {i : Nat} (hi : i < P.n) {x : V} (hx : NV P x) : (T P i x).getD i 0 = if x.getD i 0 + 1 = P.ord i then 0 else x.getD i 0 + 1 := by
  have hxi := hx.2 i hi
  have hS : NV P (if x.getD i 0 + 1 = P.ord i then mulP P ((bump x i).set i 0) (P.pow i) else bump x i) ∧ (if x.getD i 0 + 1 = P.ord i then mulP P ((bump x i).set i 0) (P.pow i) else bump x i).getD i 0 = if x.getD i 0 + 1 = P.ord i then 0 else x.getD i 0 + 1 := by
    by_cases ho : x.getD i 0 + 1 = P.ord i
    · rw [if_pos ho, if_pos ho]
      have hl : NV P ((bump x i).set i 0) := ⟨by simp [length_bump, hx.1], fun j hj => by
        have h2 := hx.2 j hj
        rw [getD_set, getD_bump x i j (by rw [hx.1]; exact hi), length_bump, hx.1]
        by_cases e : i = j
        · subst e; rw [if_pos ⟨rfl, hi⟩]; omega
        · rw [if_neg (fun hh => e hh.1), if_neg (Ne.symm e)]
          split
          · exact h2
          · omega⟩
      refine ⟨mulP_NV hv hl, ?_⟩
      rw [mul_low hv (m := i + 1) (by omega) hi hl (G.norm (hv.pow i hi)), getD_set, length_bump, hx.1, if_pos ⟨rfl, hi⟩]
    · rw [if_neg ho, if_neg ho]
      refine ⟨⟨by rw [length_bump]; exact hx.1, fun j hj => ?_⟩, by rw [getD_bump x i i (by rw [hx.1]; exact hi), if_pos rfl]⟩
      have h1 := hx.2 j hj
      rw [getD_bump x i j (by rw [hx.1]; exact hi)]
      by_cases e : j = i
      · subst e; rw [if_pos rfl]; omega
      · rw [if_neg e]
        split
        · exact h1
        · omega
  rw [T_eq hv hi, ← hS.2, sig_E hi]
  have key : NV P (E P.n (rt P fun k => P.cj k i) (tl P (i + 1) x) (if x.getD i 0 + 1 = P.ord i then mulP P ((bump x i).set i 0) (P.pow i) else bump x i)) ∧
      (E P.n (rt P fun k => P.cj k i) (tl P (i + 1) x) (if x.getD i 0 + 1 = P.ord i then mulP P ((bump x i).set i 0) (P.pow i) else bump x i)).getD i 0 = (if x.getD i 0 + 1 = P.ord i then mulP P ((bump x i).set i 0) (P.pow i) else bump x i).getD i 0 :=
    E_inv (m := i + 1) (p := fun z => NV P z ∧ z.getD i 0 = (if x.getD i 0 + 1 = P.ord i then mulP P ((bump x i).set i 0) (P.pow i) else bump x i).getD i 0) (fun k hk hkm => by rw [getD_tl, if_neg (by omega)])
      (fun k z hk hmk hz => ⟨mulP_NV hv hz.1, (mul_low hv (m := i + 1) (by omega) hi hz.1 (G_cj hv (by omega) hk)).trans hz.2⟩) ⟨hS.1, rfl⟩
  exact key.2
theorem iter_NV {i : Nat} (hi : i < P.n) {x : V} (hx : NV P x) (q : Nat) : NV P (iter (T P i) q x) := iter_inv (p := NV P) (fun _ hz => T_NV hv hi hz) q x hx
theorem iter_at {i : Nat} (hi : i < P.n) {x : V} (hx : NV P x) : ∀ (q : Nat), x.getD i 0 + (q : Int) < P.ord i → (iter (T P i) q x).getD i 0 = x.getD i 0 + (q : Int)
  | 0, _ => by show x.getD i 0 = _; simp
  | q + 1, h => by
    show (T P i (iter (T P i) q x)).getD i 0 = _
    rw [T_at hv hi (iter_NV hv hi hx q), iter_at hi hx q (by omega), if_neg (by omega)]
    push_cast; omega
theorem iter_low {i j : Nat} (hi : i < P.n) (hj : j < i) {x : V} (hx : NV P x) : ∀ (q : Nat), (iter (T P i) q x).getD j 0 = x.getD j 0
  | 0 => rfl
  | q + 1 => by
    show (T P i (iter (T P i) q x)).getD j 0 = _
    rw [T_low hv (m := i) (Nat.le_refl _) hi hj (iter_NV hv hi hx q), iter_low hi hj hx q]
/-- how often generator i is multiplied until its entry is 0 -/
def cnt (P : PcD) (i : Nat) (x : V) : Nat := if x.getD i 0 = 0 then 0 else (P.ord i - x.getD i 0).toNat
theorem cnt_at {i : Nat} (hi : i < P.n) {x : V} (hx : NV P x) : (iter (T P i) (cnt P i x) x).getD i 0 = 0 := by
  have hxi := hx.2 i hi
  unfold cnt
  by_cases h : x.getD i 0 = 0
  · rw [if_pos h]; exact h
  · rw [if_neg h]
    obtain ⟨q, hq⟩ : ∃ q : Nat, (P.ord i - x.getD i 0).toNat = q + 1 := ⟨(P.ord i - x.getD i 0).toNat - 1, by omega⟩
    rw [hq]
    show (T P i (iter (T P i) q x)).getD i 0 = 0
    rw [T_at hv hi (iter_NV hv hi hx q), iter_at hv hi hx q (by omega), if_pos (by omega)]
theorem cnt_pos {i : Nat} (hi : i < P.n) {x : V} (hx : NV P x) {q : Nat} (hq : q < cnt P i x) : 0 < (iter (T P i) q x).getD i 0 := by
  have hxi := hx.2 i hi
  unfold cnt at hq
  by_cases h : x.getD i 0 = 0
  · rw [if_pos h] at hq; omega
  · rw [if_neg h] at hq
    rw [iter_at hv hi hx q (by omega)]; omega
theorem cnt_lt {i : Nat} (hi : i < P.n) {x : V} (hx : NV P x) : (cnt P i x : Int) < P.ord i := by
  have hxi := hx.2 i hi
  have := hv.ord2 i hi
  unfold cnt
  split <;> omega
omit hv in
/-- the inverse, generator by generator: what is left of the list, and the inverse so far -/
def invTo (P : PcD) (x : V) (k : Nat) : V × V := foldTo (fun i s => (iter (T P i) (cnt P i s.1) s.1, s.2.set i (cnt P i s.1 : Int))) k (x, zV P)
omit hv in
def invP (P : PcD) (x : V) : V := (invTo P x P.n).2
omit hv in
theorem invTo_succ (x : V) (k : Nat) : invTo P x (k + 1) = (iter (T P k) (cnt P k (invTo P x k).1) (invTo P x k).1, (invTo P x k).2.set k (cnt P k (invTo P x k).1 : Int)) := rfl
theorem invTo_inv {x : V} (hx : NV P x) : ∀ (k : Nat), k ≤ P.n → NV P (invTo P x k).1 ∧ NV P (invTo P x k).2 ∧ (∀ j, j < k → (invTo P x k).1.getD j 0 = 0) ∧ (∀ j, k ≤ j → (invTo P x k).2.getD j 0 = 0) ∧ (invTo P x k).1 = mulP P x (invTo P x k).2
  | 0, _ => ⟨hx, NV_z hv, fun j hj => absurd hj (Nat.not_lt_zero j), fun j _ => getD_zV P j, (mul_zero x).symm⟩
  | k + 1, hk => by
    obtain ⟨h1, h2, h3, h4, h5⟩ := invTo_inv hx k (by omega)
    have hkn : k < P.n := by omega
    rw [invTo_succ]
    have hc := cnt_lt hv hkn h1
    refine ⟨iter_NV hv hkn h1 _, ⟨by simp [h2.1], fun j hj => ?_⟩, fun j hj => ?_, fun j hj => ?_, ?_⟩
    · rw [getD_set]
      split
      · rename_i e; rw [← e.1]; exact ⟨by omega, hc⟩
      · exact h2.2 j hj
    · rcases Nat.lt_or_ge j k with h | h
      · show (iter (T P k) _ _).getD j 0 = 0
        rw [iter_low hv hkn h h1]; exact h3 j h
      · obtain rfl : j = k := by omega
        exact cnt_at hv hkn h1
    · show ((invTo P x k).2.set k _).getD j 0 = 0
      rw [getD_set, if_neg (by omega)]; exact h4 j (by omega)
    · show iter (T P k) _ _ = mulP P x ((invTo P x k).2.set k _)
      rw [h5]
      obtain ⟨r, hr⟩ : ∃ r, P.n = (k + 1) + r := ⟨P.n - (k + 1), by omega⟩
      have eR : mulP P x ((invTo P x k).2.set k (cnt P k (mulP P x (invTo P x k).2) : Int)) = iter (T P k) (cnt P k (mulP P x (invTo P x k).2)) (foldTo (fun j z => iter (T P j) ((invTo P x k).2.getD j 0).toNat z) k x) := by
        rw [mulP_def, hr, foldTo_split]
        rw [foldTo_id (n := r) (fun t z ht => by rw [getD_set, if_neg (by omega), h4 _ (by omega)]; rfl)]
        show iter (T P k) _ (foldTo _ k x) = _
        rw [getD_set, if_pos ⟨rfl, by rw [h2.1]; exact hkn⟩, Int.toNat_natCast]
        congr 1
        exact foldTo_congr k (fun j z hj => by rw [getD_set, if_neg (by omega)]) x
      have eL : mulP P x (invTo P x k).2 = foldTo (fun j z => iter (T P j) ((invTo P x k).2.getD j 0).toNat z) k x := by
        rw [mulP_def, show P.n = k + (r + 1) by omega, foldTo_split]
        exact foldTo_id (fun t z ht => by rw [h4 _ (by omega)]; rfl) _
      rw [eR, ← eL]
theorem invP_NV {x : V} (hx : NV P x) : NV P (invP P x) := (invTo_inv hv hx P.n (Nat.le_refl _)).2.1
theorem mul_inv {x : V} (hx : NV P x) : mulP P x (invP P x) = zV P := by
  obtain ⟨h1, -, h3, -, h5⟩ := invTo_inv hv hx P.n (Nat.le_refl _)
  unfold invP
  rw [← h5]
  exact ext_len h1.1 (length_zV P) fun k hk => by rw [h3 k hk, getD_zV]

variable (hc : consB P = true)
include hc
theorem inv_mul {x : V} (hx : NV P x) : mulP P (invP P x) x = zV P := by
  have hy := invP_NV hv hx
  have hz := invP_NV hv hy
  have e : x = invP P (invP P x) := by
    have := mul_assoc hv hc hx hy hz
    rwa [mul_inv hv hy, mul_inv hv hx, mul_zero, zero_mul hv hz] at this
  have := mul_inv hv hy
  rwa [← e] at this
theorem cancel_left {u w : V} (hu : NV P u) (hw : NV P w) (h : mulP P u w = w) : u = zV P := by
  have := mul_assoc hv hc hu hw (invP_NV hv hw)
  rwa [mul_inv hv hw, mul_zero, h, mul_inv hv hw] at this
theorem inv_unique {x y : V} (hx : NV P x) (hy : NV P y) (h : mulP P x y = zV P) : y = invP P x := by
  have := mul_assoc hv hc (invP_NV hv hx) hx hy
  rwa [h, mul_zero, inv_mul hv hc hx, zero_mul hv hy, eq_comm] at this

omit hv hc in
/-- powers -/
def npow (P : PcD) (x : V) (n : Nat) : V := iter (fun z => mulP P z x) n (zV P)
omit hc in
theorem npow_NV {x : V} (n : Nat) : NV P (npow P x n) := iter_inv (p := NV P) (fun _ hz => mulP_NV hv hz) n _ (NV_z hv)
omit hv hc in
theorem npow_succ (x : V) (n : Nat) : npow P x (n + 1) = mulP P (npow P x n) x := rfl
omit hc in
theorem npow_one {x : V} (hx : NV P x) : npow P x 1 = x := zero_mul hv hx
theorem npow_add {x : V} (hx : NV P x) (m : Nat) : ∀ (n : Nat), npow P x (m + n) = mulP P (npow P x m) (npow P x n)
  | 0 => (mul_zero _).symm
  | n + 1 => by
    rw [show m + (n + 1) = (m + n) + 1 by omega, npow_succ, npow_add hx m n, npow_succ, mul_assoc hv hc (npow_NV hv m) (npow_NV hv n) hx]
theorem npow_mul {x : V} (hx : NV P x) (m : Nat) : ∀ (n : Nat), npow P x (m * n) = npow P (npow P x m) n
  | 0 => rfl
  | n + 1 => by rw [Nat.mul_succ, npow_add hv hc hx, npow_mul hx m n, npow_succ]
theorem npow_sq {x : V} (hx : NV P x) (m : Nat) : npow P (mulP P x x) m = npow P x (2 * m) := by
  rw [npow_mul hv hc hx, show npow P x 2 = mulP P x x by show mulP P (npow P x 1) x = _; rw [npow_one hv hx]]
theorem npow_zero_mul {x : V} (hx : NV P x) {k : Nat} (hk : npow P x k = zV P) (q : Nat) : npow P x (k * q) = zV P := by
  rw [npow_mul hv hc hx, hk]
  have : ∀ q, npow P (zV P) q = zV P := fun q => by
    induction q with
    | zero => rfl
    | succ q ih => rw [npow_succ, mul_zero, ih]
  exact this q
theorem npow_mod {x : V} (hx : NV P x) {k : Nat} (hk : npow P x k = zV P) (n : Nat) : npow P x n = npow P x (n % k) := by
  conv => lhs; rw [← Nat.div_add_mod n k, npow_add hv hc hx, npow_zero_mul hv hc hx hk, zero_mul hv (npow_NV hv _)]
theorem npow_inv {x : V} (hx : NV P x) : ∀ (m : Nat), mulP P (npow P x m) (npow P (invP P x) m) = zV P
  | 0 => mul_zero _
  | m + 1 => by
    have hy := invP_NV hv hx
    rw [show m + 1 = 1 + m by omega, npow_add hv hc hy, npow_one hv hy, Nat.add_comm 1 m, npow_succ, ← mul_assoc hv hc (npow_NV hv m) hx (mulP_NV hv hy), mul_assoc hv hc hx hy (npow_NV hv m), mul_inv hv hx, zero_mul hv (npow_NV hv m)]
    exact npow_inv hx m
/-- the power that the inverse's power is -/
theorem npow_neg {x : V} (hx : NV P x) {k : Nat} (hk : npow P x k = zV P) {m r : Nat} (h : (m + r) % k = 0) : npow P (invP P x) m = npow P x r := by
  have e : mulP P (npow P x m) (npow P x r) = zV P := by
    rw [← npow_add hv hc hx, npow_mod hv hc hx hk, h]; rfl
  rw [inv_unique hv hc (npow_NV hv m) (npow_NV hv r) e]
  exact inv_unique hv hc (npow_NV hv m) (npow_NV hv m) (npow_inv hv hc hx m)
end

theorem pigeon : ∀ (N : Nat) (f : Nat → Nat), (∀ i, i ≤ N → f i < N) → ∃ i j, i < j ∧ j ≤ N ∧ f i = f j
  | 0, f, h => by have := h 0 (Nat.le_refl _); omega
  | N + 1, f, h => by
    by_cases hex : ∃ i, i ≤ N ∧ f i = f (N + 1)
    · obtain ⟨i, hi, e⟩ := hex
      exact ⟨i, N + 1, by omega, Nat.le_refl _, e⟩
    · have hne : ∀ i, i ≤ N → f i ≠ f (N + 1) := fun i hi e => hex ⟨i, hi, e⟩
      have hv := h (N + 1) (Nat.le_refl _)
      obtain ⟨i, j, hij, hj, e⟩ := pigeon N (fun i => if f (N + 1) < f i then f i - 1 else f i) (fun i hi => by
        have h1 := h i (by omega)
        have h2 := hne i hi
        show (if f (N + 1) < f i then f i - 1 else f i) < N
        split <;> omega)
      refine ⟨i, j, hij, by omega, ?_⟩
      have h1 := hne i (by omega)
      have h2 := hne j hj
      have e' : (if f (N + 1) < f i then f i - 1 else f i) = (if f (N + 1) < f j then f j - 1 else f j) := e
      split at e' <;> split at e' <;> omega

/-- the number of a list among the lists that begin so -/
def rk (P : PcD) (x : V) (k : Nat) : Int := foldTo (fun i a => a * P.ord i + x.getD i 0) k 0
theorem rk_succ (P : PcD) (x : V) (k : Nat) : rk P x (k + 1) = rk P x k * P.ord k + x.getD k 0 := rfl
theorem prod_succ (P : PcD) (k : Nat) : prod P (k + 1) = prod P k * P.ord k := rfl
section
variable {P : PcD} (hv : Valid P)
include hv
theorem prod_pos : ∀ (k : Nat), k ≤ P.n → 1 ≤ prod P k
  | 0, _ => by show (1 : Int) ≤ 1; omega
  | k + 1, h => by
    have h1 := prod_pos k (by omega)
    have h2 := hv.ord2 k (by omega)
    rw [prod_succ]
    have := Int.mul_le_mul h1 (show (1 : Int) ≤ P.ord k by omega) (by omega) (by omega)
    omega
theorem rk_bd {x : V} (hx : NV P x) : ∀ (k : Nat), k ≤ P.n → 0 ≤ rk P x k ∧ rk P x k < prod P k
  | 0, _ => by show (0 : Int) ≤ 0 ∧ (0 : Int) < 1; omega
  | k + 1, h => by
    obtain ⟨h1, h2⟩ := rk_bd hx k (by omega)
    have h3 := hx.2 k (by omega)
    have h4 := hv.ord2 k (by omega)
    rw [rk_succ, prod_succ]
    have h5 : rk P x k * P.ord k ≤ (prod P k - 1) * P.ord k := Int.mul_le_mul_of_nonneg_right (by omega) (by omega)
    have h6 : 0 ≤ rk P x k * P.ord k := Int.mul_nonneg h1 (by omega)
    rw [Int.sub_mul] at h5
    omega
theorem rk_inj {x y : V} (hx : NV P x) (hy : NV P y) : ∀ (k : Nat), k ≤ P.n → rk P x k = rk P y k → ∀ j, j < k → x.getD j 0 = y.getD j 0
  | 0, _, _ => fun j hj => absurd hj (Nat.not_lt_zero j)
  | k + 1, h, e => fun j hj => by
    have h3 := hx.2 k (by omega)
    have h4 := hy.2 k (by omega)
    have h5 := hv.ord2 k (by omega)
    rw [rk_succ, rk_succ] at e
    have e1 : x.getD k 0 = y.getD k 0 := by
      have := congrArg (· % P.ord k) e
      simp only [Int.mul_add_emod_self_right] at this
      rwa [Int.emod_eq_of_lt h3.1 h3.2, Int.emod_eq_of_lt h4.1 h4.2] at this
    have e2 : rk P x k = rk P y k := by
      rw [e1] at e
      have : rk P x k * P.ord k = rk P y k * P.ord k := by omega
      exact Int.eq_of_mul_eq_mul_right (by omega) this
    rcases Nat.lt_or_ge j k with hjk | hjk
    · exact rk_inj hx hy k (by omega) e2 j hjk
    · obtain rfl : j = k := by omega
      exact e1
end
/-- n is the order of x -/
structure IsPer (P : PcD) (x : V) (n : Nat) : Prop where
  pos : 1 ≤ n
  one : npow P x n = zV P
  least : ∀ j, 1 ≤ j → j < n → npow P x j ≠ zV P
theorem IsPer.unique {P : PcD} {x : V} {n m : Nat} (h : IsPer P x n) (k : IsPer P x m) : n = m := by
  rcases Nat.lt_trichotomy n m with h1 | h1 | h1
  · exact absurd h.one (k.least n h.pos h1)
  · exact h1
  · exact absurd k.one (h.least m k.pos h1)
theorem least_of {p : Nat → Prop} [DecidablePred p] : ∀ (N : Nat), p N → ∃ n, n ≤ N ∧ p n ∧ ∀ j, j < n → ¬ p j := fun N => by
  induction N using Nat.strongRecOn with
  | _ N ih =>
    intro hN
    by_cases h : ∃ j, j < N ∧ p j
    · obtain ⟨j, hj, hp⟩ := h
      obtain ⟨n, hn, h1, h2⟩ := ih j hj hp
      exact ⟨n, by omega, h1, h2⟩
    · exact ⟨N, Nat.le_refl _, hN, fun j hj hp => h ⟨j, hj, hp⟩⟩
theorem per_exists {P : PcD} (hv : Valid P) (hc : consB P = true) {x : V} (hx : NV P x) : ∃ n, IsPer P x n ∧ (n : Int) ≤ prod P P.n := by
  have hp := prod_pos hv P.n (Nat.le_refl _)
  obtain ⟨i, j, hij, hj, e⟩ := pigeon (prod P P.n).toNat (fun i => (rk P (npow P x i) P.n).toNat) (fun i _ => by
    have := rk_bd hv (npow_NV hv (x := x) i) P.n (Nat.le_refl _)
    omega)
  have h1 := rk_bd hv (npow_NV hv (x := x) i) P.n (Nat.le_refl _)
  have h2 := rk_bd hv (npow_NV hv (x := x) j) P.n (Nat.le_refl _)
  have e' : rk P (npow P x i) P.n = rk P (npow P x j) P.n := by
    have : (rk P (npow P x i) P.n).toNat = (rk P (npow P x j) P.n).toNat := e
    omega
  have e2 : npow P x i = npow P x j := ext_len (npow_NV hv i).1 (npow_NV hv j).1 (rk_inj hv (npow_NV hv i) (npow_NV hv j) P.n (Nat.le_refl _) e')
  have e3 : npow P x (j - i) = zV P := by
    refine cancel_left hv hc (w := npow P x i) (npow_NV hv _) (npow_NV hv i) ?_
    rw [← npow_add hv hc hx, show j - i + i = j by omega, ← e2]
  obtain ⟨n, hn, ⟨hn1, hn2⟩, hn3⟩ := least_of (p := fun n => 1 ≤ n ∧ npow P x n = zV P) (j - i) ⟨by omega, e3⟩
  exact ⟨n, ⟨hn1, hn2, fun m hm1 hm2 hm3 => hn3 m hm2 ⟨hm1, hm3⟩⟩, by omega⟩
end Go.Proofs.Pc
namespace Go.Proofs
open Go.RowKit Go.Proofs.Pc

theorem vec_nil_lit : #[Value.int .i64 0, Value.int .i64 0, Value.int .i64 0, Value.int .i64 0, Value.int .i64 0, Value.int .i64 0, Value.int .i64 0, Value.int .i64 0, Value.int .i64 0, Value.int .i64 0, Value.int .i64 0, Value.int .i64 0] = (vec []).toArray := rfl
theorem vec_zV (P : PcD) : vec (zV P) = vec [] := by
  unfold vec
  exact List.map_congr_left fun k _ => by rw [getD_zV]; rfl
theorem range_of_heap {w : World} {b : Nat} {x : List Int} {t : TypeId} (h : w.heap[b]? = some (.cells (vec x).toArray t (0, 0))) : w.rangeAt b 0 (vec x) := fun j v hv => by
  rw [cell_of_row _ _ _ _ _ _ h]; simpa using hv
theorem cell_of_heap {w : World} {b k : Nat} {x : List Int} {t : TypeId} (h : w.heap[b]? = some (.cells (vec x).toArray t (0, 0))) (hk : k < 12) : w.cell? ⟨b, k, none⟩ = some (.int .i64 (x.getD k 0)) := by
  have := range_of_heap h k _ (getElem?_vec x hk)
  rwa [Nat.zero_add] at this
theorem setCell_vec {w : World} {b k : Nat} {x : List Int} {t : TypeId} (h : w.heap[b]? = some (.cells (vec x).toArray t (0, 0))) (hk : k < x.length) (v : Int) : (w.setCell ⟨b, k, none⟩ (.int .i64 v)).heap[b]? = some (.cells (vec (x.set k v)).toArray t (0, 0)) := by
  rw [← vec_set x hk]
  simp [World.setCell, Array.getElem?_modify, h]

/-- the number in a cell -/
def numAt (w : World) (b k : Nat) : Nat := match w.cell? ⟨b, k, none⟩ with | some (.int _ z) => z.toNat | _ => 0
theorem numAt_of {w : World} {b k q : Nat} (h : w.cell? ⟨b, k, none⟩ = some (.int .i64 (q : Int))) : numAt w b k = q := by unfold numAt; rw [h]; simp

set_option maxRecDepth 100000 in
set_option maxHeartbeats 1000000 in
theorem inverse_any {P : PcD} (hv : Valid P) (w : World) (br : Nat) (x : List Int) (hr : RulesAt w br P) (hx : NV P x) :
    Calls Try.prog 73 #[.pointer (some ⟨br, 0, none⟩), .agg (vec x).toArray] w fun e w' => e = .returned (.agg (vec (invP P x)).toArray) ∧ Below w.heap.size w w' := by
  have h12 := hv.n12
  have hbr := hr.lt
  have hst := @store_vec_new
  have hbld := build113
  obtain ⟨W, hW⟩ : ∃ W, W = ((w.alloc (.cells (vec x).toArray 82)).alloc (.cells #[.int .i64 0, .int .i64 0, .int .i64 0, .int .i64 0, .int .i64 0, .int .i64 0, .int .i64 0, .int .i64 0, .int .i64 0, .int .i64 0, .int .i64 0, .int .i64 0] 82)).alloc (.cells (Value.pointer (some ⟨br, 0, none⟩) :: vec x).toArray 113) := ⟨_, rfl⟩
  have hb3 : Below w.heap.size w W := by rw [hW]; exact allocs_below [.cells (vec x).toArray 82, .cells #[.int .i64 0, .int .i64 0, .int .i64 0, .int .i64 0, .int .i64 0, .int .i64 0, .int .i64 0, .int .i64 0, .int .i64 0, .int .i64 0, .int .i64 0, .int .i64 0] 82, .cells (Value.pointer (some ⟨br, 0, none⟩) :: vec x).toArray 113] w _ (Nat.le_refl _)
  have hg3 := allocs_get [.cells (vec x).toArray 82, .cells #[.int .i64 0, .int .i64 0, .int .i64 0, .int .i64 0, .int .i64 0, .int .i64 0, .int .i64 0, .int .i64 0, .int .i64 0, .int .i64 0, .int .i64 0, .int .i64 0] 82, .cells (Value.pointer (some ⟨br, 0, none⟩) :: vec x).toArray 113] w
  have hW1 : W.heap[w.heap.size + 1]? = some (.cells (vec (zV P)).toArray 82 (0, 0)) := by rw [hW, vec_zV]; exact hg3 1 _ rfl
  have hW2 : CollAt W (w.heap.size + 2) br x := by rw [hW]; exact hg3 2 _ rfl
  have hWs : W.heap.size = w.heap.size + 3 := by rw [hW]; simp
  have hn0 : W.cell? ⟨br, 0, none⟩ = some (.int .i64 P.n) := ((KC.of_below hb3).rules hr).n
  rw [hW] at hn0
  have HB3 := Lib.hid hb3
  have HW1 := Lib.hid hW1
  have HW2 := Lib.hid hW2
  have HWS := Lib.hid hWs
  have HW := Lib.hid hW
  have HR := Lib.hid hr
  have HX := Lib.hid hx
  clear hr hx hb3 hg3 hW1 hW2 hW hWs
  go_enter Try.func73, Try.ntmps73
  go_wp2_with (first
    | (refine wpList_build113 rfl (.tmp 7) (.tmp 8) rfl br x rfl rfl ?_)
    | (refine wpList_load_mid rfl 82 (.tmp 3) rfl w.heap.size 0 rfl (vec x) _ (range_of_heap (x := x) (t := 82) ((Below.heap_alloc _ _ _ (by simp)).trans (heap_alloc_new w _))) Try.underlying82 rfl (by rw [length_vec]; exact info82) ?_))
  rw [← HW.out]
  clear hn0 HW hst hbld
  have hbcn : w.heap.size + 2 ≠ br := by omega
  have HI0 : Hid ((invTo P x 0).1 = x ∧ (invTo P x 0).2 = zV P) := Lib.hid ⟨rfl, rfl⟩
  go_loopw [15] (fun s wr => ∃ k : Nat, k ≤ P.n ∧ s = .int .i64 k ∧ CollAt wr (w.heap.size + 2) br (invTo P x k).1 ∧ wr.heap[w.heap.size + 1]? = some (.cells (vec (invTo P x k).2).toArray 82 (0, 0)) ∧ Below w.heap.size w wr) (fun s _ => P.n - (intOf s).toNat)
  case atStart => exact ⟨0, Nat.zero_le _, rfl, HW2.out, HW1.out, HB3.out⟩
  case round =>
    obtain ⟨k, hk, rfl, hC, hY, hB⟩ := hrel
    have HC := Lib.hid hC
    have HY := Lib.hid hY
    have HB := Lib.hid hB
    clear hC hY hB
    by_cases hlt : k < P.n
    · obtain ⟨n1, n2, -, n4, -⟩ := invTo_inv hv HX.out k hk
      have hcl := cnt_lt hv hlt n1
      have ho2 := hv.ord2 k hlt
      have HN1 := Lib.hid n1
      have HN2 := Lib.hid n2
      have HN4 := Lib.hid n4
      have HS := Lib.hid (invTo_succ (P := P) x k)
      generalize (invTo P x k).1 = v at *
      generalize (invTo P x k).2 = y at *
      have hk0 : (0 : Int) ≤ (k : Int) := Int.natCast_nonneg _
      have hk12 : (k : Int) < 12 := by omega
      generalize hcn : cnt P k v = cn at *
      have HCN := Lib.hid hcn
      clear n1 n2 n4 hcn
      have hy0 : vec (y.set k ((0 : Nat) : Int)) = vec y := by
        unfold vec
        refine List.map_congr_left fun j _ => ?_
        rw [getD_set]
        split
        · rename_i e; rw [← e.1, HN4.out k (Nat.le_refl _)]; rfl
        · rfl
      have HY0 := Lib.hid hy0
      clear hy0
      go_wp2_with fail
      obtain ⟨wo, rfl⟩ : ∃ wo, wo = wr := ⟨_, rfl⟩
      go_loopw [] (fun wr => ∃ q : Nat, q ≤ cn ∧ CollAt wr (w.heap.size + 2) br (iter (T P k) q v) ∧ wr.heap[w.heap.size + 1]? = some (.cells (vec (y.set k (q : Int))).toArray 82 (0, 0)) ∧ Below w.heap.size w wr) (fun wr => cn - numAt wr (w.heap.size + 1) k)
      case atStart => exact ⟨0, Nat.zero_le _, HC.out, by rw [HY0.out]; exact HY.out, HB.out⟩
      case round =>
        obtain ⟨q, hq, hC, hY, hB⟩ := hrel
        have hlen : (y.set k (q : Int)).length = P.n := by rw [List.length_set]; exact HN2.out.1
        have hyk : (y.set k (q : Int)).getD k 0 = (q : Int) := by rw [getD_set, if_pos ⟨rfl, by rw [HN2.out.1]; exact hlt⟩]
        have hcy := cell_of_heap (k := k) hY (by omega)
        rw [hyk] at hcy
        have hnq := numAt_of hcy
        have hnv := iter_NV hv hlt HN1.out q
        have hcell : wr.cell? ⟨w.heap.size + 1 + 1, 1 + k, none⟩ = _ := hC.cell (k := k) (by omega)
        have hqk := hnv.2 k hlt
        have hpos := fun h : q < cn => cnt_pos hv hlt HN1.out (q := q) (by rw [HCN.out]; exact h)
        have hend : Hid (q = cn → (iter (T P k) q v).getD k 0 = 0) := Lib.hid (fun h => by rw [h, ← HCN.out]; exact cnt_at hv hlt HN1.out)
        have HC := Lib.hid hC
        have HY := Lib.hid hY
        have HB := Lib.hid hB
        have HNV := Lib.hid hnv
        have HTS : Hid (iter (T P k) (q + 1) v = timesF P P.n k (iter (T P k) q v)) := Lib.hid rfl
        have HNQ := Lib.hid hnq
        have hrr := (KC.of_below hB).rules HR.out
        have hwsz : w.heap.size + 2 < wr.heap.size := hC.lt
        have HRR := Lib.hid hrr
        generalize hz : iter (T P k) q v = z at *
        have HZ := Lib.hid hz
        clear hz
        by_cases hql : q < cn
        · have hz0 := hpos hql
          generalize hm : z.getD k 0 = m at *
          clear hpos hm hend hyk hlen hC hY hB hnv hnq hrr
          go_wp2_with (go_at_call 79; (refine (times_ok hv P.n _ (w.heap.size + 2) br z k HC.out HRR.out hbcn HNV.out hlt (by omega)).mono ?_); rintro e w5 ⟨rfl, hc5, hg5⟩; have hcy5 := (World.cell?_of_block (a := ⟨w.heap.size + 1, k, none⟩) (hg5.block (w.heap.size + 1) (by omega) (by simp))).trans hcy; have hfy5 : w5.frozen? ⟨w.heap.size + 1, k, none⟩ = false := by simp [World.frozen?, (hg5.block (w.heap.size + 1) (by omega) (by simp)).trans HY.out])
          have hlen : (y.set k (q : Int)).length = P.n := by rw [List.length_set]; exact HN2.out.1
          have h6 := setCell_vec ((hg5.block (w.heap.size + 1) (by omega) (by simp)).trans HY.out) (show k < (y.set k (q : Int)).length by omega) ((q : Int) + 1)
          rw [List.set_set] at h6
          have hyk6 : (y.set k ((q : Int) + 1)).getD k 0 = ((q + 1 : Nat) : Int) := by rw [getD_set, if_pos ⟨rfl, by rw [HN2.out.1]; exact hlt⟩]; push_cast; rfl
          have hn6 : numAt (w5.setCell ⟨w.heap.size + 1, k, none⟩ (.int .i64 ((q : Int) + 1))) (w.heap.size + 1) k = q + 1 := numAt_of (by rw [cell_of_heap h6 (by omega), hyk6])
          go_roundw
          case rel => exact ⟨q + 1, by omega, by rw [HTS.out]; exact hc5.block (Below.heap_setCell _ ⟨w.heap.size + 1, k, none⟩ _ _ (by simp)), by rw [h6]; push_cast; rfl, (HB.out.grown hg5 HB.out.size (fun k e => by cases e; omega)).setCell (p := ⟨w.heap.size + 1, k, none⟩) (by simp) _⟩
          case measure => rw [hn6, HNQ.out]; omega
        · obtain rfl : q = cn := by omega
          rw [hend.out rfl] at hcell
          have hc9 : CollAt wr (w.heap.size + 2) br (invTo P x (k + 1)).1 := by rw [HS.out]; show CollAt _ _ _ (iter (T P k) q v); rw [HZ.out]; exact HC.out
          have hy9 : wr.heap[w.heap.size + 1]? = some (.cells (vec (invTo P x (k + 1)).2).toArray 82 (0, 0)) := by rw [HS.out]; exact HY.out
          have HC9 := Lib.hid hc9
          have HY9 := Lib.hid hy9
          clear hpos hyk hlen hC hY hB hnv hnq hrr hend hc9 hy9
          go_wp2_with fail
          go_roundw
          case rel => exact ⟨k + 1, by omega, by go_num, HC9.out, HY9.out, HB.out⟩
          case measure => simp [intOf]; omega
    · obtain rfl : k = P.n := by omega
      have hrow := setRow_heap wr (w.heap.size + 1) _ (vec (invTo P x P.n).2).toArray 82 (0, 0) HY.out
      have HRW := Lib.hid hrow
      clear hrow
      go_wp2_with (first
        | (refine wpList_load_mid rfl 82 (.tmp 4) rfl (w.heap.size + 1) 0 rfl (vec (invTo P x P.n).2) _ (range_of_heap HY.out) Try.underlying82 rfl (by rw [length_vec]; exact info82) ?_)
        | (refine wpList_store_row rfl 82 (.tmp 4) (.tmp 34) rfl (w.heap.size + 1) 82 _ (vec (invTo P x P.n).2).toArray rfl rfl HY.out (by rw [size_vec]; exact info82) rfl (oneCell_vec _) ?_))
      exact bodyPost_ret (results_cell_row (P := Try.prog) rfl _ _ (w.heap.size + 1) 82 (vec (invTo P x P.n).2).toArray (0, 0) _ rfl HRW.out Try.underlying82 rfl (by rw [size_vec]; exact info82)) rfl ⟨rfl, below_setRow HB.out (by omega) _⟩
end Go.Proofs
namespace Go.Proofs
open Go.RowKit Go.Proofs.Pc

theorem eq12_nil {P : PcD} (hv : Valid P) {x : List Int} (hx : NV P x) : eq12 x [] = decide (x = zV P) := by
  have h12 := hv.n12
  unfold eq12
  rw [Bool.eq_iff_iff, List.all_eq_true, decide_eq_true_iff]
  constructor
  · intro h
    refine ext_len hx.1 (length_zV P) fun k hk => ?_
    have := h k (by simp; omega)
    rw [getD_zV]
    simpa using this
  · rintro rfl k hk
    rw [getD_zV]; rfl

theorem store_vec_at (w : World) (x : List Int) (k : Nat) (h : w.heap.size = k) : Sem.run Try.prog (storeCells ⟨k, 0, none⟩ (vec x)) (w.alloc (.cells #[.int .i64 0, .int .i64 0, .int .i64 0, .int .i64 0, .int .i64 0, .int .i64 0, .int .i64 0, .int .i64 0, .int .i64 0, .int .i64 0, .int .i64 0, .int .i64 0] 82)) =
    .ok () (w.alloc (.cells (vec x).toArray 82)) := by subst h; exact store_vec_new w x
def PerPost (P : PcD) (x : List Int) (w : World) (e : Ending) (w' : World) : Prop := (∃ n : Nat, IsPer P x n ∧ (n : Int) ≤ 50000 ∧ e = .returned (.int .i64 n)) ∧ Below w.heap.size w w'

set_option maxRecDepth 100000 in
set_option maxHeartbeats 1000000 in
theorem period_any {P : PcD} (hv : Valid P) (hc : consB P = true) (hp : prod P P.n ≤ 50000) (w : World) (br : Nat) (x : List Int) (hr : RulesAt w br P) (hx : NV P x) :
    Calls Try.prog 75 #[.pointer (some ⟨br, 0, none⟩), .agg (vec x).toArray] w (PerPost P x w) := by
  obtain ⟨N, hN, hN2⟩ := per_exists hv hc hx
  have hst := store_vec_at
  have hN1 := hN.pos
  have hN3 : (N : Int) ≤ 50000 := by omega
  have hb2 := allocs_below [.cells (vec x).toArray 82, .cells (vec x).toArray 82] w _ (Nat.le_refl _)
  have hg2 := allocs_get [.cells (vec x).toArray 82, .cells (vec x).toArray 82] w
  have HB : Hid (Below w.heap.size w ((w.alloc (.cells (vec x).toArray 82)).alloc (.cells (vec x).toArray 82))) := Lib.hid hb2
  have H0 : Hid (((w.alloc (.cells (vec x).toArray 82)).alloc (.cells (vec x).toArray 82)).heap[w.heap.size]? = some (.cells (vec x).toArray 82 (0, 0))) := Lib.hid (hg2 0 _ rfl)
  have H1 : Hid (((w.alloc (.cells (vec x).toArray 82)).alloc (.cells (vec x).toArray 82)).heap[w.heap.size + 1]? = some (.cells (vec x).toArray 82 (0, 0))) := Lib.hid (hg2 1 _ rfl)
  have HR := Lib.hid hr
  have HX := Lib.hid hx
  have HN := Lib.hid hN
  clear hr hx hb2 hg2 hN hN2
  go_enter Try.func75, Try.ntmps75
  go_wp2_with (refine wpList_load_mid rfl 82 (.tmp 3) rfl w.heap.size 0 rfl (vec x) _ (range_new _ _) Try.underlying82 rfl (by rw [length_vec]; exact info82) ?_)
  generalize (w.alloc (.cells (vec x).toArray 82)).alloc (.cells (vec x).toArray 82) = W at *
  go_loopw [5, 6] (fun s5 s6 wr => ∃ j : Nat, 1 ≤ j ∧ j ≤ N ∧ s5 = .int .i64 j ∧ (∃ b : Nat, s6 = .pointer (some ⟨b, 0, none⟩) ∧ w.heap.size < b ∧ wr.heap[b]? = some (.cells (vec (npow P x j)).toArray 82 (0, 0))) ∧ wr.heap[w.heap.size]? = some (.cells (vec x).toArray 82 (0, 0)) ∧ Below w.heap.size w wr) (fun s _ _ => N - (intOf s).toNat)
  case atStart => exact ⟨1, Nat.le_refl _, by omega, by go_num, ⟨w.heap.size + 1, rfl, by omega, by rw [npow_one hv HX.out]; exact H1.out⟩, H0.out, HB.out⟩
  case round =>
    obtain ⟨j, hj1, hj2, rfl, ⟨b, rfl, hb, hY⟩, hX0, hB⟩ := hrel
    have hny := npow_NV hv (x := x) j
    have hcmp := eq12_nil hv hny
    have HNY := Lib.hid hny
    have HY := Lib.hid hY
    have HX0 := Lib.hid hX0
    have HB := Lib.hid hB
    have HS := Lib.hid (npow_succ (P := P) x j)
    by_cases h0 : npow P x j = zV P
    · have hjN : j = N := by
        rcases Nat.lt_or_ge j N with h | h
        · exact absurd h0 (HN.out.least j hj1 h)
        · omega
      subst hjN
      rw [decide_eq_true h0] at hcmp
      generalize npow P x j = y at *
      have HC : Hid ((!eq12 y []) = false) := Lib.hid (by rw [hcmp]; rfl)
      clear h0 hcmp hny hY hX0 hB
      go_wp2_with (first
        | (refine wpList_load_mid rfl 82 (.tmp 6) rfl b 0 rfl (vec y) _ (range_of_heap HY.out) Try.underlying82 rfl (by rw [length_vec]; exact info82) ?_)
        | ((with_reducible refine wpList_sel 10 ?_); refine wpList_val rfl (r_neq82 (.tmp 8) (.tmp 9) y [] rfl rfl rfl) ?_; rw [HC.out]))
      go_ret
      exact ⟨⟨j, HN.out, hN3, rfl⟩, HB.out⟩
    · have hjN : j < N := by
        rcases Nat.lt_or_ge j N with h | h
        · exact h
        · obtain rfl : j = N := by omega
          exact absurd HN.out.one h0
      rw [decide_eq_false h0] at hcmp
      generalize npow P x j = y at *
      have HC : Hid ((!eq12 y []) = true) := Lib.hid (by rw [hcmp]; rfl)
      have hbl : b < wr.heap.size := (Array.getElem?_eq_some_iff.1 hY).1
      have hal : Below wr.heap.size wr (wr.alloc (.cells (vec y ++ vec x).toArray 82)) := (Below.refl _ _).alloc (Nat.le_refl _) _
      have hrr := (KC.of_below (hB.trans (hal.mono hB.size))).rules HR.out
      have HRR := Lib.hid hrr
      clear h0 hcmp hny hY hX0 hB hrr
      go_wp2_with (first
        | ((with_reducible refine wpList_sel 8 ?_); refine wpList_load_mid rfl 82 (.tmp 6) rfl b 0 rfl (vec y) _ (range_of_heap HY.out) Try.underlying82 rfl (by rw [length_vec]; exact info82) ?_)
        | ((with_reducible refine wpList_sel 10 ?_); refine wpList_val rfl (r_neq82 (.tmp 8) (.tmp 9) y [] rfl rfl rfl) ?_; rw [HC.out])
        | ((with_reducible refine wpList_sel 14 ?_); refine wpList_load_mid rfl 82 (.tmp 6) rfl b 0 rfl (vec y) _ (range_of_heap HY.out) Try.underlying82 rfl (by rw [length_vec]; exact info82) ?_)
        | ((with_reducible refine wpList_sel 15 ?_); refine wpList_load_mid rfl 82 (.tmp 3) rfl w.heap.size 0 rfl (vec x) _ (range_of_heap HX0.out) Try.underlying82 rfl (by rw [length_vec]; exact info82) ?_)
        | ((with_reducible refine wpList_sel 16 ?_); refine wpList_bslice2 rfl (.tmp 14) (.tmp 15) rfl y x rfl rfl ?_)
        | (go_at_call 71; (refine (mul_R1 hv HRR.out (vecs2 wr y x) HNY.out HX.out).mono ?_); rintro e w3 ⟨v, rfl, rfl, hb3⟩
           have hb3' : Below wr.heap.size wr w3 := hal.trans (hb3.mono hal.size)
           have H3Y := Lib.hid ((hb3'.block b hbl).trans HY.out)
           have H3X := Lib.hid ((hb3'.block _ (Array.getElem?_eq_some_iff.1 HX0.out).1).trans HX0.out)
           have H3B := Lib.hid (HB.out.trans (hb3'.mono HB.out.size))
           have H3R := Lib.hid (setRow_heap w3 b _ (vec (mulP P y x)).toArray 82 (0, 0) H3Y.out)
           have H3S : Hid ((w3.setRow b (vec (mulP P y x)).toArray).heap.size = w3.heap.size) := Lib.hid (by rw [World.setRow]; simp)
           have hbl3 : w.heap.size < w3.heap.size := by have := (Array.getElem?_eq_some_iff.1 H3X.out).1; exact this
           clear hb3 hb3')
        | (refine wpList_store_row rfl 82 (.tmp 6) (.tmp 17) rfl b 82 _ (vec (mulP P y x)).toArray rfl rfl H3Y.out (by rw [size_vec]; exact info82) rfl (oneCell_vec _) ?_)
        | ((with_reducible refine wpList_sel 18 ?_); refine wpList_load_mid rfl 82 (.tmp 6) rfl b 0 rfl (vec (mulP P y x)) _ (range_of_heap H3R.out) Try.underlying82 rfl (by rw [length_vec]; exact info82) ?_))
      have hbs := below_setRow H3B.out (show w.heap.size ≤ b by omega) (vec (mulP P y x)).toArray
      go_roundw
      case rel =>
        have hnew := heap_alloc_new (w3.setRow b (vec (mulP P y x)).toArray) (.cells (vec (mulP P y x)).toArray 82)
        rw [H3S.out] at hnew
        exact ⟨j + 1, by omega, by omega, by go_num, ⟨_, rfl, hbl3, by rw [HS.out]; exact hnew⟩, (Below.heap_alloc _ _ _ (by rw [H3S.out]; omega)).trans ((setRow_other w3 b _ _ (by omega)).trans H3X.out), hbs.alloc hbs.size _⟩
      case measure => simp [intOf]; omega
end Go.Proofs
namespace Go.Proofs
open Go.RowKit Go.Proofs.Pc

structure PwRel (P : PcD) (w : World) (R : V) (m : Nat) (o X : V) (wr : World) : Prop where
  below : Below w.heap.size w wr
  bx : wr.heap[w.heap.size]? = some (.cells (vec X).toArray 82 (0, 0))
  bz : wr.heap[w.heap.size + 1]? = some (.cells (vec []).toArray 82 (0, 0))
  bo : wr.heap[w.heap.size + 2]? = some (.cells (vec o).toArray 82 (0, 0))
  no : NV P o
  nx : NV P X
  eq : mulP P o (npow P X m) = R
theorem PwRel.odd {P : PcD} (hv : Valid P) (hc : consB P = true) {R o X : V} {m : Nat} (h : mulP P o (npow P X m) = R) (no : NV P o) (nx : NV P X) (hm : m % 2 = 1) : mulP P (mulP P o X) (npow P (mulP P X X) (m / 2)) = R := by
  rw [npow_sq hv hc nx, ← mul_assoc hv hc no nx (npow_NV hv _), ← h]
  congr 1
  have : m = 1 + 2 * (m / 2) := by omega
  conv => rhs; rw [this, npow_add hv hc nx, npow_one hv nx]
theorem PwRel.even {P : PcD} (hv : Valid P) (hc : consB P = true) {R o X : V} {m : Nat} (h : mulP P o (npow P X m) = R) (nx : NV P X) (hm : m % 2 = 0) : mulP P o (npow P (mulP P X X) (m / 2)) = R := by
  rw [npow_sq hv hc nx, show 2 * (m / 2) = m by omega, h]

set_option maxRecDepth 100000 in
set_option maxHeartbeats 1000000 in
theorem power_any {P : PcD} (hv : Valid P) (hc : consB P = true) (w : World) (br : Nat) (x : List Int) (n : Nat) (hn : n ≤ 1000000) (hr : RulesAt w br P) (hx : NV P x) :
    Calls Try.prog 76 #[.pointer (some ⟨br, 0, none⟩), .agg (vec x).toArray, .int .i64 n] w fun e w' => e = .returned (.agg (vec (npow P x n)).toArray) ∧ Below w.heap.size w w' := by
  have hst := store_vec_at
  have hb2 := allocs_below [.cells (vec x).toArray 82, .cells (vec []).toArray 82, .cells (vec []).toArray 82] w _ (Nat.le_refl _)
  have hg2 := allocs_get [.cells (vec x).toArray 82, .cells (vec []).toArray 82, .cells (vec []).toArray 82] w
  have hz : NV P (zV P) := NV_z hv
  have HW : Hid (PwRel P w (npow P x n) n (zV P) x (((w.alloc (.cells (vec x).toArray 82)).alloc (.cells #[.int .i64 0, .int .i64 0, .int .i64 0, .int .i64 0, .int .i64 0, .int .i64 0, .int .i64 0, .int .i64 0, .int .i64 0, .int .i64 0, .int .i64 0, .int .i64 0] 82)).alloc (.cells #[.int .i64 0, .int .i64 0, .int .i64 0, .int .i64 0, .int .i64 0, .int .i64 0, .int .i64 0, .int .i64 0, .int .i64 0, .int .i64 0, .int .i64 0, .int .i64 0] 82))) := Lib.hid ⟨hb2, hg2 0 _ rfl, hg2 1 _ rfl, by rw [vec_zV]; exact hg2 2 _ rfl, hz, hx, zero_mul hv (npow_NV hv n)⟩
  have HR := Lib.hid hr
  clear hr hx hb2 hg2 hz
  go_enter Try.func76, Try.ntmps76
  go_wp2_with fail
  generalize ((w.alloc (.cells (vec x).toArray 82)).alloc (.cells #[.int .i64 0, .int .i64 0, .int .i64 0, .int .i64 0, .int .i64 0, .int .i64 0, .int .i64 0, .int .i64 0, .int .i64 0, .int .i64 0, .int .i64 0, .int .i64 0] 82)).alloc (.cells #[.int .i64 0, .int .i64 0, .int .i64 0, .int .i64 0, .int .i64 0, .int .i64 0, .int .i64 0, .int .i64 0, .int .i64 0, .int .i64 0, .int .i64 0, .int .i64 0] 82) = W at *
  generalize hRq : npow P x n = R at *
  have HRQ := Lib.hid hRq
  clear hRq
  go_loopw [2] (fun s wr => ∃ m : Nat, m ≤ 1000000 ∧ s = .int .i64 m ∧ ∃ o X, PwRel P w R m o X wr) (fun s _ => (intOf s).toNat)
  case atStart => exact ⟨n, hn, rfl, _, _, HW.out⟩
  case round =>
    obtain ⟨m, hm, rfl, o, X, hP⟩ := hrel
    have HP := Lib.hid hP
    have hm0 : (0 : Int) ≤ (m : Int) := Int.natCast_nonneg _
    by_cases hpos : 0 < m
    · have hal : Below wr.heap.size wr (wr.alloc (.cells (vec X ++ vec X).toArray 82)) := (Below.refl _ _).alloc (Nat.le_refl _) _
      have hrr := (KC.of_below (hP.below.trans (hal.mono hP.below.size))).rules HR.out
      have HRR := Lib.hid hrr
      have hsz : w.heap.size + 2 < wr.heap.size := (Array.getElem?_eq_some_iff.1 hP.bo).1
      have hrb := (KC.of_below hP.below).rules HR.out
      have HRB := Lib.hid hrb
      clear hP hrr hrb
      rcases Nat.mod_two_eq_zero_or_one m with h2 | h2
      · have d1 : ((m : Int) % 2 == 1) = false := beq_eq_false_iff_ne.2 (by omega)
        have H2 := Lib.hid h2
        clear h2
        go_wp2_with (first
          | ((with_reducible refine wpList_sel 22 ?_); refine wpList_load_mid rfl 82 (.tmp 4) rfl w.heap.size 0 rfl (vec X) _ (range_of_heap HP.out.bx) Try.underlying82 rfl (by rw [length_vec]; exact info82) ?_)
          | ((with_reducible refine wpList_sel 23 ?_); refine wpList_load_mid rfl 82 (.tmp 4) rfl w.heap.size 0 rfl (vec X) _ (range_of_heap HP.out.bx) Try.underlying82 rfl (by rw [length_vec]; exact info82) ?_)
          | ((with_reducible refine wpList_sel 24 ?_); refine wpList_bslice2 rfl (.tmp 22) (.tmp 23) rfl X X rfl rfl ?_)
          | (go_at_call 71; (refine (mul_R1 hv HRR.out (vecs2 wr X X) HP.out.nx HP.out.nx).mono ?_); rintro e w3 ⟨v, rfl, rfl, hb3⟩
             have hb3' : Below wr.heap.size wr w3 := hal.trans (hb3.mono hal.size)
             have H3X := Lib.hid ((hb3'.block _ (by omega)).trans HP.out.bx)
             have H3B := Lib.hid hb3'
             clear hb3 hb3')
          | (refine wpList_store_row rfl 82 (.tmp 4) (.tmp 25) rfl w.heap.size 82 _ (vec (mulP P X X)).toArray rfl rfl H3X.out (by rw [size_vec]; exact info82) rfl (oneCell_vec _) ?_))
        have hP2 := HP.out
        have hb4 := below_setRow (hP2.below.trans (H3B.out.mono hP2.below.size)) (Nat.le_refl w.heap.size) (vec (mulP P X X)).toArray
        have hq : PwRel P w R (m / 2) o (mulP P X X) (w3.setRow w.heap.size (vec (mulP P X X)).toArray) :=
          ⟨hb4, setRow_heap w3 w.heap.size _ _ 82 (0, 0) H3X.out, (setRow_other w3 w.heap.size _ _ (by omega)).trans ((H3B.out.block _ (by omega)).trans hP2.bz), (setRow_other w3 w.heap.size _ _ (by omega)).trans ((H3B.out.block _ (by omega)).trans hP2.bo), hP2.no, mulP_NV hv hP2.nx, PwRel.even hv hc hP2.eq hP2.nx H2.out⟩
        go_roundw
        case rel => exact ⟨m / 2, by omega, by rw [Int.natCast_ediv]; rfl, o, _, hq⟩
        case measure => simp [intOf]; omega
      · have d1 : ((m : Int) % 2 == 1) = true := beq_iff_eq.2 (by omega)
        have hal0 : Below wr.heap.size wr (wr.alloc (.cells (vec o ++ vec X).toArray 82)) := (Below.refl _ _).alloc (Nat.le_refl _) _
        have hrr0 := (KC.of_below hal0).rules HRB.out
        have HRR := Lib.hid hrr0
        have H2 := Lib.hid h2
        have tok1 : True := trivial
        clear h2 hrr0
        go_wp2_with (first
          | ((with_reducible refine wpList_sel 17 ?_); refine wpList_load_mid rfl 82 (.tmp 7) rfl (w.heap.size + 2) 0 rfl (vec o) _ (range_of_heap HP.out.bo) Try.underlying82 rfl (by rw [length_vec]; exact info82) ?_)
          | ((with_reducible refine wpList_sel 18 ?_); refine wpList_load_mid rfl 82 (.tmp 4) rfl w.heap.size 0 rfl (vec X) _ (range_of_heap HP.out.bx) Try.underlying82 rfl (by rw [length_vec]; exact info82) ?_)
          | ((with_reducible refine wpList_sel 19 ?_); refine wpList_bslice2 rfl (.tmp 17) (.tmp 18) rfl o X rfl rfl ?_)
          | (go_at_call 71; have _t := tok1; (refine (mul_R1 hv HRR.out (vecs2 wr o X) HP.out.no HP.out.nx).mono ?_); rintro e w3 ⟨v, rfl, rfl, hb3⟩
             have hb3' : Below wr.heap.size wr w3 := hal0.trans (hb3.mono hal0.size)
             have H3X := Lib.hid ((hb3'.block _ (by omega)).trans HP.out.bx)
             have H3O := Lib.hid ((hb3'.block _ (by omega)).trans HP.out.bo)
             have H3Z := Lib.hid ((hb3'.block _ (by omega)).trans HP.out.bz)
             have H3B := Lib.hid (HP.out.below.trans (hb3'.mono HP.out.below.size))
             have hs3 : w.heap.size + 2 < w3.heap.size := (Array.getElem?_eq_some_iff.1 H3O.out).1
             have h4s : (w3.setRow (w.heap.size + 2) (vec (mulP P o X)).toArray).heap.size = w3.heap.size := by rw [World.setRow]; simp
             have H4S := Lib.hid h4s
             have H4X := Lib.hid ((setRow_other w3 (w.heap.size + 2) _ (vec (mulP P o X)).toArray (by omega)).trans H3X.out)
             have H4Z := Lib.hid ((setRow_other w3 (w.heap.size + 2) _ (vec (mulP P o X)).toArray (by omega)).trans H3Z.out)
             have H4O := Lib.hid (setRow_heap w3 (w.heap.size + 2) _ (vec (mulP P o X)).toArray 82 (0, 0) H3O.out)
             have H4B := Lib.hid (below_setRow H3B.out (show w.heap.size ≤ w.heap.size + 2 by omega) (vec (mulP P o X)).toArray)
             have hal4 : Below w.heap.size w ((w3.setRow (w.heap.size + 2) (vec (mulP P o X)).toArray).alloc (.cells (vec X ++ vec X).toArray 82)) := H4B.out.alloc H4B.out.size _
             have H4R := Lib.hid ((KC.of_below hal4).rules HR.out)
             clear hb3 hb3' tok1 _t h4s hal4)
          | (refine wpList_store_row rfl 82 (.tmp 7) (.tmp 20) rfl (w.heap.size + 2) 82 _ (vec (mulP P o X)).toArray rfl rfl H3O.out (by rw [size_vec]; exact info82) rfl (oneCell_vec _) ?_)
          | ((with_reducible refine wpList_sel 22 ?_); refine wpList_load_mid rfl 82 (.tmp 4) rfl w.heap.size 0 rfl (vec X) _ (range_of_heap H4X.out) Try.underlying82 rfl (by rw [length_vec]; exact info82) ?_)
          | ((with_reducible refine wpList_sel 23 ?_); refine wpList_load_mid rfl 82 (.tmp 4) rfl w.heap.size 0 rfl (vec X) _ (range_of_heap H4X.out) Try.underlying82 rfl (by rw [length_vec]; exact info82) ?_)
          | ((with_reducible refine wpList_sel 24 ?_); refine wpList_bslice2 rfl (.tmp 22) (.tmp 23) rfl X X rfl rfl ?_)
          | (go_at_call 71; generalize hW4 : w3.setRow (w.heap.size + 2) (vec (mulP P o X)).toArray = W4 at *
             rw [← H4S.out]
             (refine (mul_R1 hv H4R.out (vecs2 W4 X X) HP.out.nx HP.out.nx).mono ?_); rintro e w5 ⟨v, rfl, rfl, hb5⟩
             have hal5 : Below W4.heap.size W4 (W4.alloc (.cells (vec X ++ vec X).toArray 82)) := (Below.refl _ _).alloc (Nat.le_refl _) _
             have hb5' : Below W4.heap.size W4 w5 := hal5.trans (hb5.mono hal5.size)
             have hs4 : w.heap.size + 2 < W4.heap.size := by rw [H4S.out]; exact hs3
             have H5X := Lib.hid ((hb5'.block _ (by omega)).trans H4X.out)
             have H5O := Lib.hid ((hb5'.block _ (by omega)).trans H4O.out)
             have H5Z := Lib.hid ((hb5'.block _ (by omega)).trans H4Z.out)
             have H5B := Lib.hid (H4B.out.trans (hb5'.mono H4B.out.size))
             clear hb5 hb5' hW4 hal5)
          | (refine wpList_store_row rfl 82 (.tmp 4) (.tmp 25) rfl w.heap.size 82 _ (vec (mulP P X X)).toArray rfl rfl H5X.out (by rw [size_vec]; exact info82) rfl (oneCell_vec _) ?_))
        have hP2 := HP.out
        have hq : PwRel P w R (m / 2) (mulP P o X) (mulP P X X) (w5.setRow w.heap.size (vec (mulP P X X)).toArray) :=
          ⟨below_setRow H5B.out (Nat.le_refl w.heap.size) _, setRow_heap w5 w.heap.size _ _ 82 (0, 0) H5X.out, (setRow_other w5 w.heap.size _ _ (by omega)).trans H5Z.out, (setRow_other w5 w.heap.size _ _ (by omega)).trans H5O.out, mulP_NV hv hP2.no, mulP_NV hv hP2.nx, PwRel.odd hv hc hP2.eq hP2.no hP2.nx H2.out⟩
        go_roundw
        case rel => exact ⟨m / 2, by omega, by rw [Int.natCast_ediv]; rfl, _, _, hq⟩
        case measure => simp [intOf]; omega
    · obtain rfl : m = 0 := by omega
      have he := hP.eq
      have hrow := setRow_heap wr (w.heap.size + 1) _ (vec o).toArray 82 (0, 0) hP.bz
      have HRW := Lib.hid hrow
      have HE : Hid (o = R) := Lib.hid (by rw [← he]; exact (mul_zero o).symm)
      clear hP he hrow
      go_wp2_with (first
        | (refine wpList_load_mid rfl 82 (.tmp 7) rfl (w.heap.size + 2) 0 rfl (vec o) _ (range_of_heap HP.out.bo) Try.underlying82 rfl (by rw [length_vec]; exact info82) ?_)
        | (refine wpList_store_row rfl 82 (.tmp 6) (.tmp 26) rfl (w.heap.size + 1) 82 _ (vec o).toArray rfl rfl HP.out.bz (by rw [size_vec]; exact info82) rfl (oneCell_vec _) ?_))
      exact bodyPost_ret (results_cell_row (P := Try.prog) rfl _ _ (w.heap.size + 1) 82 (vec o).toArray (0, 0) _ rfl HRW.out Try.underlying82 rfl (by rw [size_vec]; exact info82)) rfl ⟨by rw [HE.out, HRQ.out], below_setRow HP.out.below (by omega) _⟩
end Go.Proofs
