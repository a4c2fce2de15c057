/- Plain: inverses, powers and the order of an element of a consistent presentation; The contract of cayleykit.KnownPc; The contract of (*rules).inverse; Words for the reference: a list of numbers in a block of its own; a copy by append; a presentation below a block number; The contracts of (*rules).period and (*rules).power. -/
import Derived.Test.YtffkmchmakfcpaaOrCS19
import Derived.Test.YtffkmchmakfcpaaOrCS16
import Derived.Test.YtffkmchmakfcpaaOrCS17
import Derived.Test.YtffkmchmakfcpaaOrCS18
import Derived.Deep.AppendSrc
namespace Go.Proofs.Pc
section
variable {P : PcD} (hv : Valid P)
include hv
/-- the entry of the generator itself -/
theorem T_at {i : Nat} (hi : i < P.n) {x : V} (hx : NV P x) : (T P i x).getD i 0 = if x.getD i 0 + 1 = P.ord i then 0 else x.getD i 0 + 1 := by
  have hxi := hx.2 i hi
  have hS : NV P (if x.getD i 0 + 1 = P.ord i then mulP P ((bump x i).set i 0) (P.pow i) else bump x i) ∧ (if x.getD i 0 + 1 = P.ord i then mulP P ((bump x i).set i 0) (P.pow i) else bump x i).getD i 0 = if x.getD i 0 + 1 = P.ord i then 0 else x.getD i 0 + 1 := by
    by_cases ho : x.getD i 0 + 1 = P.ord i
    · rw [if_pos ho, if_pos ho]
      have hl : NV P ((bump x i).set i 0) := ⟨by simp [length_bump, hx.1], fun j hj => by
        have h2 := hx.2 j hj
        rw [getD_set, getD_bump x i j (by rw [hx.1]; exact hi), length_bump, hx.1]
        by_cases e : i = j
        · subst e; rw [if_pos ⟨rfl, hi⟩]; omega
        · rw [if_neg (fun hh => e hh.1), if_neg (Ne.symm e)]
          split
          · exact h2
          · omega⟩
      refine ⟨mulP_NV hv hl, ?_⟩
      rw [mul_low hv (m := i + 1) (by omega) hi hl (G.norm (hv.pow i hi)), getD_set, length_bump, hx.1, if_pos ⟨rfl, hi⟩]
    · rw [if_neg ho, if_neg ho]
      refine ⟨⟨by rw [length_bump]; exact hx.1, fun j hj => ?_⟩, by rw [getD_bump x i i (by rw [hx.1]; exact hi), if_pos rfl]⟩
      have h1 := hx.2 j hj
      rw [getD_bump x i j (by rw [hx.1]; exact hi)]
      by_cases e : j = i
      · subst e; rw [if_pos rfl]; omega
      · rw [if_neg e]
        split
        · exact h1
        · omega
  rw [T_eq hv hi, ← hS.2, sig_E hi]
  have key : NV P (E P.n (rt P fun k => P.cj k i) (tl P (i + 1) x) (if x.getD i 0 + 1 = P.ord i then mulP P ((bump x i).set i 0) (P.pow i) else bump x i)) ∧
      (E P.n (rt P fun k => P.cj k i) (tl P (i + 1) x) (if x.getD i 0 + 1 = P.ord i then mulP P ((bump x i).set i 0) (P.pow i) else bump x i)).getD i 0 = (if x.getD i 0 + 1 = P.ord i then mulP P ((bump x i).set i 0) (P.pow i) else bump x i).getD i 0 :=
    E_inv (m := i + 1) (p := fun z => NV P z ∧ z.getD i 0 = (if x.getD i 0 + 1 = P.ord i then mulP P ((bump x i).set i 0) (P.pow i) else bump x i).getD i 0) (fun k hk hkm => by rw [getD_tl, if_neg (by omega)])
      (fun k z hk hmk hz => ⟨mulP_NV hv hz.1, (mul_low hv (m := i + 1) (by omega) hi hz.1 (G_cj hv (by omega) hk)).trans hz.2⟩) ⟨hS.1, rfl⟩
  exact key.2
theorem iter_NV {i : Nat} (hi : i < P.n) {x : V} (hx : NV P x) (q : Nat) : NV P (iter (T P i) q x) := iter_inv (p := NV P) (fun _ hz => T_NV hv hi hz) q x hx
theorem iter_at {i : Nat} (hi : i < P.n) {x : V} (hx : NV P x) : ∀ (q : Nat), x.getD i 0 + (q : Int) < P.ord i → (iter (T P i) q x).getD i 0 = x.getD i 0 + (q : Int)
  | 0, _ => by show x.getD i 0 = _; simp
  | q + 1, h => by
    show (T P i (iter (T P i) q x)).getD i 0 = _
    rw [T_at hv hi (iter_NV hv hi hx q), iter_at hi hx q (by omega), if_neg (by omega)]
    push_cast; omega
theorem iter_low {i j : Nat} (hi : i < P.n) (hj : j < i) {x : V} (hx : NV P x) : ∀ (q : Nat), (iter (T P i) q x).getD j 0 = x.getD j 0
  | 0 => rfl
  | q + 1 => by
    show (T P i (iter (T P i) q x)).getD j 0 = _
    rw [T_low hv (m := i) (Nat.le_refl _) hi hj (iter_NV hv hi hx q), iter_low hi hj hx q]
/-- how often generator i is multiplied until its entry is 0 -/
def cnt (P : PcD) (i : Nat) (x : V) : Nat := if x.getD i 0 = 0 then 0 else (P.ord i - x.getD i 0).toNat
theorem cnt_at {i : Nat} (hi : i < P.n) {x : V} (hx : NV P x) : (iter (T P i) (cnt P i x) x).getD i 0 = 0 := by
  have hxi := hx.2 i hi
  unfold cnt
  by_cases h : x.getD i 0 = 0
  · rw [if_pos h]; exact h
  · rw [if_neg h]
    obtain ⟨q, hq⟩ : ∃ q : Nat, (P.ord i - x.getD i 0).toNat = q + 1 := ⟨(P.ord i - x.getD i 0).toNat - 1, by omega⟩
    rw [hq]
    show (T P i (iter (T P i) q x)).getD i 0 = 0
    rw [T_at hv hi (iter_NV hv hi hx q), iter_at hv hi hx q (by omega), if_pos (by omega)]
theorem cnt_pos {i : Nat} (hi : i < P.n) {x : V} (hx : NV P x) {q : Nat} (hq : q < cnt P i x) : 0 < (iter (T P i) q x).getD i 0 := by
  have hxi := hx.2 i hi
  unfold cnt at hq
  by_cases h : x.getD i 0 = 0
  · rw [if_pos h] at hq; omega
  · rw [if_neg h] at hq
    rw [iter_at hv hi hx q (by omega)]; omega
theorem cnt_lt {i : Nat} (hi : i < P.n) {x : V} (hx : NV P x) : (cnt P i x : Int) < P.ord i := by
  have hxi := hx.2 i hi
  have := hv.ord2 i hi
  unfold cnt
  split <;> omega
omit hv in
/-- the inverse, generator by generator: what is left of the list, and the inverse so far -/
def invTo (P : PcD) (x : V) (k : Nat) : V × V := foldTo (fun i s => (iter (T P i) (cnt P i s.1) s.1, s.2.set i (cnt P i s.1 : Int))) k (x, zV P)
omit hv in
def invP (P : PcD) (x : V) : V := (invTo P x P.n).2
omit hv in
theorem invTo_succ (x : V) (k : Nat) : invTo P x (k + 1) = (iter (T P k) (cnt P k (invTo P x k).1) (invTo P x k).1, (invTo P x k).2.set k (cnt P k (invTo P x k).1 : Int)) := rfl
theorem invTo_inv {x : V} (hx : NV P x) : ∀ (k : Nat), k ≤ P.n → NV P (invTo P x k).1 ∧ NV P (invTo P x k).2 ∧ (∀ j, j < k → (invTo P x k).1.getD j 0 = 0) ∧ (∀ j, k ≤ j → (invTo P x k).2.getD j 0 = 0) ∧ (invTo P x k).1 = mulP P x (invTo P x k).2
  | 0, _ => ⟨hx, NV_z hv, fun j hj => absurd hj (Nat.not_lt_zero j), fun j _ => getD_zV P j, (mul_zero x).symm⟩
  | k + 1, hk => by
    obtain ⟨h1, h2, h3, h4, h5⟩ := invTo_inv hx k (by omega)
    have hkn : k < P.n := by omega
    rw [invTo_succ]
    have hc := cnt_lt hv hkn h1
    refine ⟨iter_NV hv hkn h1 _, ⟨by simp [h2.1], fun j hj => ?_⟩, fun j hj => ?_, fun j hj => ?_, ?_⟩
    · rw [getD_set]
      split
      · rename_i e; rw [← e.1]; exact ⟨by omega, hc⟩
      · exact h2.2 j hj
    · rcases Nat.lt_or_ge j k with h | h
      · show (iter (T P k) _ _).getD j 0 = 0
        rw [iter_low hv hkn h h1]; exact h3 j h
      · obtain rfl : j = k := by omega
        exact cnt_at hv hkn h1
    · show ((invTo P x k).2.set k _).getD j 0 = 0
      rw [getD_set, if_neg (by omega)]; exact h4 j (by omega)
    · show iter (T P k) _ _ = mulP P x ((invTo P x k).2.set k _)
      rw [h5]
      obtain ⟨r, hr⟩ : ∃ r, P.n = (k + 1) + r := ⟨P.n - (k + 1), by omega⟩
      have eR : mulP P x ((invTo P x k).2.set k (cnt P k (mulP P x (invTo P x k).2) : Int)) = iter (T P k) (cnt P k (mulP P x (invTo P x k).2)) (foldTo (fun j z => iter (T P j) ((invTo P x k).2.getD j 0).toNat z) k x) := by
        rw [mulP_def, hr, foldTo_split]
        rw [foldTo_id (n := r) (fun t z ht => by rw [getD_set, if_neg (by omega), h4 _ (by omega)]; rfl)]
        show iter (T P k) _ (foldTo _ k x) = _
        rw [getD_set, if_pos ⟨rfl, by rw [h2.1]; exact hkn⟩, Int.toNat_natCast]
        congr 1
        exact foldTo_congr k (fun j z hj => by rw [getD_set, if_neg (by omega)]) x
      have eL : mulP P x (invTo P x k).2 = foldTo (fun j z => iter (T P j) ((invTo P x k).2.getD j 0).toNat z) k x := by
        rw [mulP_def, show P.n = k + (r + 1) by omega, foldTo_split]
        exact foldTo_id (fun t z ht => by rw [h4 _ (by omega)]; rfl) _
      rw [eR, ← eL]
theorem invP_NV {x : V} (hx : NV P x) : NV P (invP P x) := (invTo_inv hv hx P.n (Nat.le_refl _)).2.1
theorem mul_inv {x : V} (hx : NV P x) : mulP P x (invP P x) = zV P := by
  obtain ⟨h1, -, h3, -, h5⟩ := invTo_inv hv hx P.n (Nat.le_refl _)
  unfold invP
  rw [← h5]
  exact ext_len h1.1 (length_zV P) fun k hk => by rw [h3 k hk, getD_zV]
variable (hc : consB P = true)
include hc
theorem inv_mul {x : V} (hx : NV P x) : mulP P (invP P x) x = zV P := by
  have hy := invP_NV hv hx
  have hz := invP_NV hv hy
  have e : x = invP P (invP P x) := by
    have := mul_assoc hv hc hx hy hz
    rwa [mul_inv hv hy, mul_inv hv hx, mul_zero, zero_mul hv hz] at this
  have := mul_inv hv hy
  rwa [← e] at this
theorem cancel_left {u w : V} (hu : NV P u) (hw : NV P w) (h : mulP P u w = w) : u = zV P := by
  have := mul_assoc hv hc hu hw (invP_NV hv hw)
  rwa [mul_inv hv hw, mul_zero, h, mul_inv hv hw] at this
omit hv hc in
/-- powers -/
def npow (P : PcD) (x : V) (n : Nat) : V := iter (fun z => mulP P z x) n (zV P)
omit hc in
theorem npow_NV {x : V} (n : Nat) : NV P (npow P x n) := iter_inv (p := NV P) (fun _ hz => mulP_NV hv hz) n _ (NV_z hv)
omit hv hc in
theorem npow_succ (x : V) (n : Nat) : npow P x (n + 1) = mulP P (npow P x n) x := rfl
omit hc in
theorem npow_one {x : V} (hx : NV P x) : npow P x 1 = x := zero_mul hv hx
theorem npow_add {x : V} (hx : NV P x) (m : Nat) : ∀ (n : Nat), npow P x (m + n) = mulP P (npow P x m) (npow P x n)
  | 0 => (mul_zero _).symm
  | n + 1 => by
    rw [show m + (n + 1) = (m + n) + 1 by omega, npow_succ, npow_add hx m n, npow_succ, mul_assoc hv hc (npow_NV hv m) (npow_NV hv n) hx]
theorem npow_mul {x : V} (hx : NV P x) (m : Nat) : ∀ (n : Nat), npow P x (m * n) = npow P (npow P x m) n
  | 0 => rfl
  | n + 1 => by rw [Nat.mul_succ, npow_add hv hc hx, npow_mul hx m n, npow_succ]
theorem npow_sq {x : V} (hx : NV P x) (m : Nat) : npow P (mulP P x x) m = npow P x (2 * m) := by
  rw [npow_mul hv hc hx, show npow P x 2 = mulP P x x by show mulP P (npow P x 1) x = _; rw [npow_one hv hx]]
end
theorem pigeon : ∀ (N : Nat) (f : Nat → Nat), (∀ i, i ≤ N → f i < N) → ∃ i j, i < j ∧ j ≤ N ∧ f i = f j
  | 0, f, h => by have := h 0 (Nat.le_refl _); omega
  | N + 1, f, h => by
    by_cases hex : ∃ i, i ≤ N ∧ f i = f (N + 1)
    · obtain ⟨i, hi, e⟩ := hex
      exact ⟨i, N + 1, by omega, Nat.le_refl _, e⟩
    · have hne : ∀ i, i ≤ N → f i ≠ f (N + 1) := fun i hi e => hex ⟨i, hi, e⟩
      have hv := h (N + 1) (Nat.le_refl _)
      obtain ⟨i, j, hij, hj, e⟩ := pigeon N (fun i => if f (N + 1) < f i then f i - 1 else f i) (fun i hi => by
        have h1 := h i (by omega)
        have h2 := hne i hi
        show (if f (N + 1) < f i then f i - 1 else f i) < N
        split <;> omega)
      refine ⟨i, j, hij, by omega, ?_⟩
      have h1 := hne i (by omega)
      have h2 := hne j hj
      have e' : (if f (N + 1) < f i then f i - 1 else f i) = (if f (N + 1) < f j then f j - 1 else f j) := e
      split at e' <;> split at e' <;> omega
/-- the number of a list among the lists that begin so -/
def rk (P : PcD) (x : V) (k : Nat) : Int := foldTo (fun i a => a * P.ord i + x.getD i 0) k 0
theorem rk_succ (P : PcD) (x : V) (k : Nat) : rk P x (k + 1) = rk P x k * P.ord k + x.getD k 0 := rfl
theorem prod_succ (P : PcD) (k : Nat) : prod P (k + 1) = prod P k * P.ord k := rfl
section
variable {P : PcD} (hv : Valid P)
include hv
theorem prod_pos : ∀ (k : Nat), k ≤ P.n → 1 ≤ prod P k
  | 0, _ => by show (1 : Int) ≤ 1; omega
  | k + 1, h => by
    have h1 := prod_pos k (by omega)
    have h2 := hv.ord2 k (by omega)
    rw [prod_succ]
    have := Int.mul_le_mul h1 (show (1 : Int) ≤ P.ord k by omega) (by omega) (by omega)
    omega
theorem rk_bd {x : V} (hx : NV P x) : ∀ (k : Nat), k ≤ P.n → 0 ≤ rk P x k ∧ rk P x k < prod P k
  | 0, _ => by show (0 : Int) ≤ 0 ∧ (0 : Int) < 1; omega
  | k + 1, h => by
    obtain ⟨h1, h2⟩ := rk_bd hx k (by omega)
    have h3 := hx.2 k (by omega)
    have h4 := hv.ord2 k (by omega)
    rw [rk_succ, prod_succ]
    have h5 : rk P x k * P.ord k ≤ (prod P k - 1) * P.ord k := Int.mul_le_mul_of_nonneg_right (by omega) (by omega)
    have h6 : 0 ≤ rk P x k * P.ord k := Int.mul_nonneg h1 (by omega)
    rw [Int.sub_mul] at h5
    omega
theorem rk_inj {x y : V} (hx : NV P x) (hy : NV P y) : ∀ (k : Nat), k ≤ P.n → rk P x k = rk P y k → ∀ j, j < k → x.getD j 0 = y.getD j 0
  | 0, _, _ => fun j hj => absurd hj (Nat.not_lt_zero j)
  | k + 1, h, e => fun j hj => by
    have h3 := hx.2 k (by omega)
    have h4 := hy.2 k (by omega)
    have h5 := hv.ord2 k (by omega)
    rw [rk_succ, rk_succ] at e
    have e1 : x.getD k 0 = y.getD k 0 := by
      have := congrArg (· % P.ord k) e
      simp only [Int.mul_add_emod_self_right] at this
      rwa [Int.emod_eq_of_lt h3.1 h3.2, Int.emod_eq_of_lt h4.1 h4.2] at this
    have e2 : rk P x k = rk P y k := by
      rw [e1] at e
      have : rk P x k * P.ord k = rk P y k * P.ord k := by omega
      exact Int.eq_of_mul_eq_mul_right (by omega) this
    rcases Nat.lt_or_ge j k with hjk | hjk
    · exact rk_inj hx hy k (by omega) e2 j hjk
    · obtain rfl : j = k := by omega
      exact e1
end
/-- n is the order of x -/
structure IsPer (P : PcD) (x : V) (n : Nat) : Prop where
  pos : 1 ≤ n
  one : npow P x n = zV P
  least : ∀ j, 1 ≤ j → j < n → npow P x j ≠ zV P
theorem IsPer.unique {P : PcD} {x : V} {n m : Nat} (h : IsPer P x n) (k : IsPer P x m) : n = m := by
  rcases Nat.lt_trichotomy n m with h1 | h1 | h1
  · exact absurd h.one (k.least n h.pos h1)
  · exact h1
  · exact absurd k.one (h.least m k.pos h1)
theorem least_of {p : Nat → Prop} [DecidablePred p] : ∀ (N : Nat), p N → ∃ n, n ≤ N ∧ p n ∧ ∀ j, j < n → ¬ p j := fun N => by
  induction N using Nat.strongRecOn with
  | _ N ih =>
    intro hN
    by_cases h : ∃ j, j < N ∧ p j
    · obtain ⟨j, hj, hp⟩ := h
      obtain ⟨n, hn, h1, h2⟩ := ih j hj hp
      exact ⟨n, by omega, h1, h2⟩
    · exact ⟨N, Nat.le_refl _, hN, fun j hj hp => h ⟨j, hj, hp⟩⟩
theorem per_exists {P : PcD} (hv : Valid P) (hc : consB P = true) {x : V} (hx : NV P x) : ∃ n, IsPer P x n ∧ (n : Int) ≤ prod P P.n := by
  have hp := prod_pos hv P.n (Nat.le_refl _)
  obtain ⟨i, j, hij, hj, e⟩ := pigeon (prod P P.n).toNat (fun i => (rk P (npow P x i) P.n).toNat) (fun i _ => by
    have := rk_bd hv (npow_NV hv (x := x) i) P.n (Nat.le_refl _)
    omega)
  have h1 := rk_bd hv (npow_NV hv (x := x) i) P.n (Nat.le_refl _)
  have h2 := rk_bd hv (npow_NV hv (x := x) j) P.n (Nat.le_refl _)
  have e' : rk P (npow P x i) P.n = rk P (npow P x j) P.n := by
    have : (rk P (npow P x i) P.n).toNat = (rk P (npow P x j) P.n).toNat := e
    omega
  have e2 : npow P x i = npow P x j := ext_len (npow_NV hv i).1 (npow_NV hv j).1 (rk_inj hv (npow_NV hv i) (npow_NV hv j) P.n (Nat.le_refl _) e')
  have e3 : npow P x (j - i) = zV P := by
    refine cancel_left hv hc (w := npow P x i) (npow_NV hv _) (npow_NV hv i) ?_
    rw [← npow_add hv hc hx, show j - i + i = j by omega, ← e2]
  obtain ⟨n, hn, ⟨hn1, hn2⟩, hn3⟩ := least_of (p := fun n => 1 ≤ n ∧ npow P x n = zV P) (j - i) ⟨by omega, e3⟩
  exact ⟨n, ⟨hn1, hn2, fun m hm1 hm2 hm3 => hn3 m hm2 ⟨hm1, hm3⟩⟩, by omega⟩
end Go.Proofs.Pc
namespace Go.Proofs
open Go.RowKit Go.Proofs.Pc
/-- Go's Turn for a modulus that is small -/
theorem turn_any (w : World) (x n : Int) (h0 : 0 < n) (h1 : n ≤ 1000000) (_hx : -9223372036854775808 ≤ x ∧ x ≤ 9223372036854775807) :
    Calls Try.prog 47 #[.int .i64 x, .int .i64 n] w fun e w' => e = .returned (.int .i64 (x % n)) ∧ w = w' := by
  have hn : (n == 0) = false := by simp; omega
  have h3 : x.tmod n < n := Int.tmod_lt_of_pos _ h0
  have h4 : -n < x.tmod n := by
    have := Int.lt_tmod_of_pos x h0
    omega
  have h5 : (x.tmod n + n) % n = x % n := by
    rw [Int.add_emod_right]
    rcases Int.le_total 0 x with h | h
    · rw [Int.tmod_eq_emod_of_nonneg h, Int.emod_emod]
    · rw [Int.tmod_eq_emod]
      split
      · simp
      · rw [Int.sub_emod]
        simp
        rw [show (n.natAbs : Int) = n by omega]
        simp
  have H5 := Lib.hid h5
  clear h5
  have hw1 : IntKind.i64.wrap (x.tmod n + n) = x.tmod n + n := IntWalk.i64_in _ (by omega)
  go_enter Try.func47, Try.ntmps47
  go_wp2_with fail
  go_ret
  exact ⟨ret_int H5.out, rfl⟩
def AllI (W : World) : List Value → List (List Int) → Prop
  | [], [] => True
  | v :: vs, x :: xs => IntsAt W v x ∧ AllI W vs xs
  | _, _ => False
def AllT (W : World) : List Value → List (List (List Int)) → Prop
  | [], [] => True
  | v :: vs, x :: xs => Tab W v x ∧ AllT W vs xs
  | _, _ => False
theorem AllI.len {W : World} : ∀ {vs : List Value} {xs : List (List Int)}, AllI W vs xs → vs.length = xs.length
  | [], [], _ => rfl
  | _ :: vs, _ :: xs, h => by simp [AllI.len h.2]
  | [], _ :: _, h => h.elim
  | _ :: _, [], h => h.elim
theorem AllI.get {W : World} : ∀ {vs : List Value} {xs : List (List Int)}, AllI W vs xs → ∀ i, i < xs.length → ∃ u, vs[i]? = some u ∧ IntsAt W u (xs.getD i [])
  | _ :: vs, _ :: xs, h, 0, _ => ⟨_, rfl, h.1⟩
  | _ :: vs, _ :: xs, h, i + 1, hi => by
    obtain ⟨u, h1, h2⟩ := AllI.get h.2 i (by simpa using hi)
    exact ⟨u, by simpa using h1, by simpa using h2⟩
  | [], _ :: _, h, _, _ => h.elim
theorem AllT.len {W : World} : ∀ {vs : List Value} {xs : List (List (List Int))}, AllT W vs xs → vs.length = xs.length
  | [], [], _ => rfl
  | _ :: vs, _ :: xs, h => by simp [AllT.len h.2]
  | [], _ :: _, h => h.elim
  | _ :: _, [], h => h.elim
theorem AllT.get {W : World} : ∀ {vs : List Value} {xs : List (List (List Int))}, AllT W vs xs → ∀ i, i < xs.length → ∃ u, vs[i]? = some u ∧ Tab W u (xs.getD i [])
  | _ :: vs, _ :: xs, h, 0, _ => ⟨_, rfl, h.1⟩
  | _ :: vs, _ :: xs, h, i + 1, hi => by
    obtain ⟨u, h1, h2⟩ := AllT.get h.2 i (by simpa using hi)
    exact ⟨u, by simpa using h1, by simpa using h2⟩
  | [], _ :: _, h, _, _ => h.elim
def fitsB (xs : List Int) : Bool := xs.all fun x => decide (-9223372036854775808 ≤ x ∧ x ≤ 9223372036854775807)
theorem fits_of {xs : List Int} (h : fitsB xs = true) : Fits xs := fun x hx => by
  have := List.all_eq_true.1 h x hx
  simpa using this
theorem sl_lit {W : World} {b n : Nat} {vs : List Value} {E : TypeId} (h : W.heap[b]? = some (.cells vs.toArray E (0, 0))) (hn : vs.length = n) (hl : n ≤ 1000) : Sl W (.slice (some ⟨b, 0, none⟩) n n) vs :=
  ⟨_, n, n, rfl, hn.symm, Nat.le_refl _, by unfold maxLen; omega, fun _ => ⟨b, 0, rfl, fun j v hv => by rw [cell_of_row _ _ _ _ _ _ h, Nat.zero_add]; simpa using hv⟩⟩
theorem ints_lit {W : World} {b n : Nat} (xs : List Int) {E : TypeId} (h : W.heap[b]? = some (.cells (xs.map (Value.int .i64)).toArray E (0, 0))) (hn : xs.length = n) (hl : n ≤ 1000) (hf : fitsB xs = true) : IntsAt W (.slice (some ⟨b, 0, none⟩) n n) xs :=
  ⟨sl_lit (vs := ints xs) h (by simpa [ints] using hn) hl, fits_of hf⟩
theorem tab_lit {W : World} {b n : Nat} {vs : List Value} {L : List (List Int)} {E : TypeId} (h : W.heap[b]? = some (.cells vs.toArray E (0, 0))) (hn : vs.length = n) (hl : n ≤ 1000) (ha : AllI W vs L) : Tab W (.slice (some ⟨b, 0, none⟩) n n) L :=
  ⟨vs, sl_lit h hn hl, ha.len, ha.get⟩
theorem tab3_lit {W : World} {b n : Nat} {vs : List Value} {L : List (List (List Int))} {E : TypeId} (h : W.heap[b]? = some (.cells vs.toArray E (0, 0))) (hn : vs.length = n) (hl : n ≤ 1000) (ha : AllT W vs L) : Tab3 W (.slice (some ⟨b, 0, none⟩) n n) L :=
  ⟨vs, sl_lit h hn hl, ha.len, ha.get⟩
def knownD : Nat → PcD
  | 0 => { orders := [2, 2, 2], powers := [[0, 0, 1], [0, 0, 1], [0, 0, 0]], conj := [[], [[0, 1, 1]], [[0, 0, 1], [0, 0, 1]]] }
  | 1 => { orders := [2, 3], powers := [[0, 0], [0, 0]], conj := [[], [[0, 2]]] }
  | 2 => { orders := [3, 2], powers := [[0, 1], [0, 0]], conj := [[], [[0, 1]]] }
  | 3 => { orders := [2, 2, 2], powers := [[0, 0, 0], [0, 0, 1], [0, 0, 0]], conj := [[], [[0, 1, 1]], [[0, 0, 1], [0, 0, 1]]] }
  | 4 => { orders := [3, 3, 3], powers := [[0, 0, 0], [0, 0, 0], [0, 0, 0]], conj := [[], [[0, 1, 1]], [[0, 0, 1], [0, 0, 1]]] }
  | 5 => { orders := [3, 2, 2], powers := [[0, 0, 0], [0, 0, 0], [0, 0, 0]], conj := [[], [[0, 0, 1]], [[0, 1, 1], [0, 0, 1]]] }
  | 6 => { orders := [4, 5], powers := [[0, 0], [0, 0]], conj := [[], [[0, 2]]] }
  | 7 => { orders := [2, 2, 2], powers := [[0, 1, 0], [0, 0, 1], [0, 0, 0]], conj := [[], [[0, 1, 0]], [[0, 0, 1], [0, 0, 1]]] }
  | 8 => { orders := [2, 3, 2, 2], powers := [[0, 0, 0, 0], [0, 0, 0, 0], [0, 0, 0, 0], [0, 0, 0, 0]], conj := [[], [[0, 2, 0, 0]], [[0, 0, 0, 1], [0, 0, 0, 1]], [[0, 0, 1, 0], [0, 0, 1, 1], [0, 0, 0, 1]]] }
  | 9 => { orders := [3, 7], powers := [[0, 0], [0, 0]], conj := [[], [[0, 2]]] }
  | 10 => { orders := [], powers := [], conj := [] }
  | _ => { orders := [25], powers := [[0]], conj := [[]] }
def allocs : World → List Obj → World
  | w, [] => w
  | w, o :: os => allocs (w.alloc o) os
theorem allocs_below : ∀ (os : List Obj) (w : World) (n : Nat), n ≤ w.heap.size → Below n w (allocs w os)
  | [], _, _, _ => Below.refl _ _
  | o :: os, w, n, h => ((Below.refl n w).alloc h o).trans (allocs_below os (w.alloc o) n (by simp; omega))
theorem allocs_get : ∀ (os : List Obj) (w : World) (i : Nat) (o : Obj), os[i]? = some o → (allocs w os).heap[w.heap.size + i]? = some o
  | [], _, _, _, h => by simp at h
  | o :: os, w, 0, o', h => by
    have e : o = o' := by simpa using h
    subst e
    have hb := allocs_below os (w.alloc o) (w.heap.size + 1) (by simp)
    exact (hb.block w.heap.size (by omega)).trans (heap_alloc_new w o)
  | o :: os, w, i + 1, o', h => by
    have := allocs_get os (w.alloc o) i o' (by simpa using h)
    rw [World.size_alloc] at this
    rw [show w.heap.size + (i + 1) = w.heap.size + 1 + i by omega]
    exact this
def KnownPost (w : World) (P : PcD) (e : Ending) (w' : World) : Prop := (∃ u0 u1 u2, e = .returned (.agg #[u0, u1, u2]) ∧ PcAt w' u0 u1 u2 P) ∧ Below w.heap.size w w'
theorem ret28 (w : World) (os : List Obj) (a : Act) (v0 v1 v2 : Value) (P : PcD) (hp : a.tmps.getD 2 undef = .pointer (some ⟨w.heap.size, 0, none⟩)) (hd : a.defers = []) (ho : os[0]? = some (.cells #[v0, v1, v2] 26 (0, 0)))
    (hP : (∀ i o, os[i]? = some o → (allocs w os).heap[w.heap.size + i]? = some o) → PcAt (allocs w os) v0 v1 v2 P) : bodyPost Try.prog Try.f29 (KnownPost w P) Exit.ret a (allocs w os) :=
  bodyPost_ret (results_cell_row (P := Try.prog) (p := 2) rfl _ _ w.heap.size 26 #[v0, v1, v2] (0, 0) _ hp (allocs_get os w 0 _ ho) Try.underlying26 rfl (by kernel_rfl)) hd ⟨⟨_, _, _, rfl, hP (allocs_get os w)⟩, allocs_below _ _ _ (Nat.le_refl _)⟩
set_option maxRecDepth 100000 in
set_option maxHeartbeats 1000000 in
theorem known_0 (w : World) (x : Int) (hx : -9223372036854775808 ≤ x ∧ x ≤ 9223372036854775807) (ht : x % 12 = 0) : Calls Try.prog 29 #[.int .i64 x] w (KnownPost w (knownD 0)) := by
  have HT := Lib.hid ht
  clear ht
  go_enter Try.func29, Try.ntmps29
  go_wp2_with (go_at_call 47; (refine (turn_any _ x 12 (by omega) (by omega) hx).mono ?_); rintro e w' ⟨rfl, rfl⟩; rw [HT.out])
  refine ret28 w [_, _, _, _, _, _, _, _, _, _, _, _, _] _ _ _ _ _ rfl rfl rfl (fun lk => ?_)
  exact ⟨ints_lit _ (lk 1 _ rfl) rfl (by decide) rfl, tab_lit (lk 5 _ rfl) rfl (by decide) ⟨ints_lit _ (lk 2 _ rfl) rfl (by decide) rfl, ints_lit _ (lk 3 _ rfl) rfl (by decide) rfl, ints_lit _ (lk 4 _ rfl) rfl (by decide) rfl, trivial⟩, tab3_lit (lk 12 _ rfl) rfl (by decide) ⟨tab_lit (vs := []) (lk 6 _ rfl) rfl (by decide) trivial, tab_lit (lk 8 _ rfl) rfl (by decide) ⟨ints_lit _ (lk 7 _ rfl) rfl (by decide) rfl, trivial⟩, tab_lit (lk 11 _ rfl) rfl (by decide) ⟨ints_lit _ (lk 9 _ rfl) rfl (by decide) rfl, ints_lit _ (lk 10 _ rfl) rfl (by decide) rfl, trivial⟩, trivial⟩⟩
end Go.Proofs
namespace Go.Proofs
open Go.RowKit Go.Proofs.Pc
theorem vec_zV (P : PcD) : vec (zV P) = vec [] := by
  unfold vec
  exact List.map_congr_left fun k _ => by rw [getD_zV]; rfl
theorem range_of_heap {w : World} {b : Nat} {x : List Int} {t : TypeId} (h : w.heap[b]? = some (.cells (vec x).toArray t (0, 0))) : w.rangeAt b 0 (vec x) := fun j v hv => by
  rw [cell_of_row _ _ _ _ _ _ h]; simpa using hv
theorem cell_of_heap {w : World} {b k : Nat} {x : List Int} {t : TypeId} (h : w.heap[b]? = some (.cells (vec x).toArray t (0, 0))) (hk : k < 12) : w.cell? ⟨b, k, none⟩ = some (.int .i64 (x.getD k 0)) := by
  have := range_of_heap h k _ (getElem?_vec x hk)
  rwa [Nat.zero_add] at this
theorem setCell_vec {w : World} {b k : Nat} {x : List Int} {t : TypeId} (h : w.heap[b]? = some (.cells (vec x).toArray t (0, 0))) (hk : k < x.length) (v : Int) : (w.setCell ⟨b, k, none⟩ (.int .i64 v)).heap[b]? = some (.cells (vec (x.set k v)).toArray t (0, 0)) := by
  rw [← vec_set x hk]
  simp [World.setCell, Array.getElem?_modify, h]
/-- the number in a cell -/
def numAt (w : World) (b k : Nat) : Nat := match w.cell? ⟨b, k, none⟩ with | some (.int _ z) => z.toNat | _ => 0
theorem numAt_of {w : World} {b k q : Nat} (h : w.cell? ⟨b, k, none⟩ = some (.int .i64 (q : Int))) : numAt w b k = q := by unfold numAt; rw [h]; simp
set_option maxRecDepth 100000 in
set_option maxHeartbeats 1000000 in
theorem inverse_any {P : PcD} (hv : Valid P) (w : World) (br : Nat) (x : List Int) (hr : RulesAt w br P) (hx : NV P x) :
    Calls Try.prog 75 #[.pointer (some ⟨br, 0, none⟩), .agg (vec x).toArray] w fun e w' => e = .returned (.agg (vec (invP P x)).toArray) ∧ Below w.heap.size w w' := by
  have h12 := hv.n12
  have hbr := hr.lt
  have hst := @store_vec_new
  have hbld := build113
  obtain ⟨W, hW⟩ : ∃ W, W = ((w.alloc (.cells (vec x).toArray 87)).alloc (.cells #[.int .i64 0, .int .i64 0, .int .i64 0, .int .i64 0, .int .i64 0, .int .i64 0, .int .i64 0, .int .i64 0, .int .i64 0, .int .i64 0, .int .i64 0, .int .i64 0] 87)).alloc (.cells (Value.pointer (some ⟨br, 0, none⟩) :: vec x).toArray 117) := ⟨_, rfl⟩
  have hb3 : Below w.heap.size w W := by rw [hW]; exact allocs_below [.cells (vec x).toArray 87, .cells #[.int .i64 0, .int .i64 0, .int .i64 0, .int .i64 0, .int .i64 0, .int .i64 0, .int .i64 0, .int .i64 0, .int .i64 0, .int .i64 0, .int .i64 0, .int .i64 0] 87, .cells (Value.pointer (some ⟨br, 0, none⟩) :: vec x).toArray 117] w _ (Nat.le_refl _)
  have hg3 := allocs_get [.cells (vec x).toArray 87, .cells #[.int .i64 0, .int .i64 0, .int .i64 0, .int .i64 0, .int .i64 0, .int .i64 0, .int .i64 0, .int .i64 0, .int .i64 0, .int .i64 0, .int .i64 0, .int .i64 0] 87, .cells (Value.pointer (some ⟨br, 0, none⟩) :: vec x).toArray 117] w
  have hW1 : W.heap[w.heap.size + 1]? = some (.cells (vec (zV P)).toArray 87 (0, 0)) := by rw [hW, vec_zV]; exact hg3 1 _ rfl
  have hW2 : CollAt W (w.heap.size + 2) br x := by rw [hW]; exact hg3 2 _ rfl
  have hWs : W.heap.size = w.heap.size + 3 := by rw [hW]; simp
  have hn0 : W.cell? ⟨br, 0, none⟩ = some (.int .i64 P.n) := ((KC.of_below hb3).rules hr).n
  rw [hW] at hn0
  have HB3 := Lib.hid hb3
  have HW1 := Lib.hid hW1
  have HW2 := Lib.hid hW2
  have HWS := Lib.hid hWs
  have HW := Lib.hid hW
  have HR := Lib.hid hr
  have HX := Lib.hid hx
  clear hr hx hb3 hg3 hW1 hW2 hW hWs
  go_enter Try.func75, Try.ntmps75
  go_wp2_with (first
    | (refine wpList_build113 rfl (.tmp 7) (.tmp 8) rfl br x rfl rfl ?_)
    | (refine wpList_load_mid rfl 87 (.tmp 3) rfl w.heap.size 0 rfl (vec x) _ (range_of_heap (x := x) (t := 87) ((Below.heap_alloc _ _ _ (by simp)).trans (heap_alloc_new w _))) Try.underlying87 rfl (by rw [length_vec]; exact info82) ?_))
  rw [← HW.out]
  clear hn0 HW hst hbld
  have hbcn : w.heap.size + 2 ≠ br := by omega
  have HI0 : Hid ((invTo P x 0).1 = x ∧ (invTo P x 0).2 = zV P) := Lib.hid ⟨rfl, rfl⟩
  go_loopw [15] (fun s wr => ∃ k : Nat, k ≤ P.n ∧ s = .int .i64 k ∧ CollAt wr (w.heap.size + 2) br (invTo P x k).1 ∧ wr.heap[w.heap.size + 1]? = some (.cells (vec (invTo P x k).2).toArray 87 (0, 0)) ∧ Below w.heap.size w wr) (fun s _ => P.n - (intOf s).toNat)
  case atStart => exact ⟨0, Nat.zero_le _, rfl, HW2.out, HW1.out, HB3.out⟩
  case round =>
    obtain ⟨k, hk, rfl, hC, hY, hB⟩ := hrel
    have HC := Lib.hid hC
    have HY := Lib.hid hY
    have HB := Lib.hid hB
    clear hC hY hB
    by_cases hlt : k < P.n
    · obtain ⟨n1, n2, -, n4, -⟩ := invTo_inv hv HX.out k hk
      have hcl := cnt_lt hv hlt n1
      have ho2 := hv.ord2 k hlt
      have HN1 := Lib.hid n1
      have HN2 := Lib.hid n2
      have HN4 := Lib.hid n4
      have HS := Lib.hid (invTo_succ (P := P) x k)
      generalize (invTo P x k).1 = v at *
      generalize (invTo P x k).2 = y at *
      have hk0 : (0 : Int) ≤ (k : Int) := Int.natCast_nonneg _
      have hk12 : (k : Int) < 12 := by omega
      generalize hcn : cnt P k v = cn at *
      have HCN := Lib.hid hcn
      clear n1 n2 n4 hcn
      have hy0 : vec (y.set k ((0 : Nat) : Int)) = vec y := by
        unfold vec
        refine List.map_congr_left fun j _ => ?_
        rw [getD_set]
        split
        · rename_i e; rw [← e.1, HN4.out k (Nat.le_refl _)]; rfl
        · rfl
      have HY0 := Lib.hid hy0
      clear hy0
      go_wp2_with fail
      obtain ⟨wo, rfl⟩ : ∃ wo, wo = wr := ⟨_, rfl⟩
      go_loopw [] (fun wr => ∃ q : Nat, q ≤ cn ∧ CollAt wr (w.heap.size + 2) br (iter (T P k) q v) ∧ wr.heap[w.heap.size + 1]? = some (.cells (vec (y.set k (q : Int))).toArray 87 (0, 0)) ∧ Below w.heap.size w wr) (fun wr => cn - numAt wr (w.heap.size + 1) k)
      case atStart => exact ⟨0, Nat.zero_le _, HC.out, by rw [HY0.out]; exact HY.out, HB.out⟩
      case round =>
        obtain ⟨q, hq, hC, hY, hB⟩ := hrel
        have hlen : (y.set k (q : Int)).length = P.n := by rw [List.length_set]; exact HN2.out.1
        have hyk : (y.set k (q : Int)).getD k 0 = (q : Int) := by rw [getD_set, if_pos ⟨rfl, by rw [HN2.out.1]; exact hlt⟩]
        have hcy := cell_of_heap (k := k) hY (by omega)
        rw [hyk] at hcy
        have hnq := numAt_of hcy
        have hnv := iter_NV hv hlt HN1.out q
        have hcell : wr.cell? ⟨w.heap.size + 1 + 1, 1 + k, none⟩ = _ := hC.cell (k := k) (by omega)
        have hqk := hnv.2 k hlt
        have hpos := fun h : q < cn => cnt_pos hv hlt HN1.out (q := q) (by rw [HCN.out]; exact h)
        have hend : Hid (q = cn → (iter (T P k) q v).getD k 0 = 0) := Lib.hid (fun h => by rw [h, ← HCN.out]; exact cnt_at hv hlt HN1.out)
        have HC := Lib.hid hC
        have HY := Lib.hid hY
        have HB := Lib.hid hB
        have HNV := Lib.hid hnv
        have HTS : Hid (iter (T P k) (q + 1) v = timesF P P.n k (iter (T P k) q v)) := Lib.hid rfl
        have HNQ := Lib.hid hnq
        have hrr := (KC.of_below hB).rules HR.out
        have hwsz : w.heap.size + 2 < wr.heap.size := hC.lt
        have HRR := Lib.hid hrr
        generalize hz : iter (T P k) q v = z at *
        have HZ := Lib.hid hz
        clear hz
        by_cases hql : q < cn
        · have hz0 := hpos hql
          generalize hm : z.getD k 0 = m at *
          clear hpos hm hend hyk hlen hC hY hB hnv hnq hrr
          go_wp2_with (go_at_call 81; (refine (times_ok hv P.n _ (w.heap.size + 2) br z k HC.out HRR.out hbcn HNV.out hlt (by omega)).mono ?_); rintro e w5 ⟨rfl, hc5, hg5⟩; have hcy5 := (World.cell?_of_block (a := ⟨w.heap.size + 1, k, none⟩) (hg5.block (w.heap.size + 1) (by omega) (by simp))).trans hcy; have hfy5 : w5.frozen? ⟨w.heap.size + 1, k, none⟩ = false := by simp [World.frozen?, (hg5.block (w.heap.size + 1) (by omega) (by simp)).trans HY.out])
          have hlen : (y.set k (q : Int)).length = P.n := by rw [List.length_set]; exact HN2.out.1
          have h6 := setCell_vec ((hg5.block (w.heap.size + 1) (by omega) (by simp)).trans HY.out) (show k < (y.set k (q : Int)).length by omega) ((q : Int) + 1)
          rw [List.set_set] at h6
          have hyk6 : (y.set k ((q : Int) + 1)).getD k 0 = ((q + 1 : Nat) : Int) := by rw [getD_set, if_pos ⟨rfl, by rw [HN2.out.1]; exact hlt⟩]; push_cast; rfl
          have hn6 : numAt (w5.setCell ⟨w.heap.size + 1, k, none⟩ (.int .i64 ((q : Int) + 1))) (w.heap.size + 1) k = q + 1 := numAt_of (by rw [cell_of_heap h6 (by omega), hyk6])
          go_roundw
          case rel => exact ⟨q + 1, by omega, by rw [HTS.out]; exact hc5.block (Below.heap_setCell _ ⟨w.heap.size + 1, k, none⟩ _ _ (by simp)), by rw [h6]; push_cast; rfl, (HB.out.grown hg5 HB.out.size (fun k e => by cases e; omega)).setCell (p := ⟨w.heap.size + 1, k, none⟩) (by simp) _⟩
          case measure => rw [hn6, HNQ.out]; omega
        · obtain rfl : q = cn := by omega
          rw [hend.out rfl] at hcell
          have hc9 : CollAt wr (w.heap.size + 2) br (invTo P x (k + 1)).1 := by rw [HS.out]; show CollAt _ _ _ (iter (T P k) q v); rw [HZ.out]; exact HC.out
          have hy9 : wr.heap[w.heap.size + 1]? = some (.cells (vec (invTo P x (k + 1)).2).toArray 87 (0, 0)) := by rw [HS.out]; exact HY.out
          have HC9 := Lib.hid hc9
          have HY9 := Lib.hid hy9
          clear hpos hyk hlen hC hY hB hnv hnq hrr hend hc9 hy9
          go_wp2_with fail
          go_roundw
          case rel => exact ⟨k + 1, by omega, by go_num, HC9.out, HY9.out, HB.out⟩
          case measure => simp [intOf]; omega
    · obtain rfl : k = P.n := by omega
      have hrow := setRow_heap wr (w.heap.size + 1) _ (vec (invTo P x P.n).2).toArray 87 (0, 0) HY.out
      have HRW := Lib.hid hrow
      clear hrow
      go_wp2_with (first
        | (refine wpList_load_mid rfl 87 (.tmp 4) rfl (w.heap.size + 1) 0 rfl (vec (invTo P x P.n).2) _ (range_of_heap HY.out) Try.underlying87 rfl (by rw [length_vec]; exact info82) ?_)
        | (refine wpList_store_row rfl 87 (.tmp 4) (.tmp 34) rfl (w.heap.size + 1) 87 _ (vec (invTo P x P.n).2).toArray rfl rfl HY.out (by rw [size_vec]; exact info82) rfl (oneCell_vec _) ?_))
      exact bodyPost_ret (results_cell_row (P := Try.prog) rfl _ _ (w.heap.size + 1) 87 (vec (invTo P x P.n).2).toArray (0, 0) _ rfl HRW.out Try.underlying87 rfl (by rw [size_vec]; exact info82)) rfl ⟨rfl, below_setRow HB.out (by omega) _⟩
end Go.Proofs
namespace Go.Proofs
open Go.RowKit Go.Proofs.Pc
/-- block b holds the numbers x (and may be longer) -/
def XsAt (w : World) (b : Nat) (x : List Int) : Prop := ∃ C : Array Value, w.heap[b]? = some (.cells C 3 (0, 0)) ∧ x.length ≤ C.size ∧ ∀ k, k < x.length → C[k]? = some (.int .i64 (x.getD k 0))
section
variable {w w' : World} {b k : Nat} {x y : List Int}
theorem XsAt.lt (h : XsAt w b x) : b < w.heap.size := by obtain ⟨C, hC, -⟩ := h; exact (Array.getElem?_eq_some_iff.1 hC).1
theorem XsAt.keep (h : XsAt w b x) (hk : w'.heap[b]? = w.heap[b]?) : XsAt w' b x := by
  obtain ⟨C, hC, h2, h3⟩ := h
  exact ⟨C, hk.trans hC, h2, h3⟩
theorem XsAt.below (h : XsAt w b x) (hb : Below w.heap.size w w') : XsAt w' b x := h.keep (hb.block _ h.lt)
theorem XsAt.grown {row : Option Nat} (h : XsAt w b x) (hg : w.grownBy w' row) (hr : some b ≠ row) : XsAt w' b x := h.keep (hg.block _ h.lt hr)
theorem XsAt.cell (h : XsAt w b x) (hk : k < x.length) : w.cell? ⟨b, k, none⟩ = some (.int .i64 (x.getD k 0)) := by
  obtain ⟨C, hC, -, h3⟩ := h
  rw [cell_of_row _ _ _ _ _ _ hC]; exact h3 k hk
theorem XsAt.frozen (h : XsAt w b x) (k : Nat) : w.frozen? ⟨b, k, none⟩ = false := by
  obtain ⟨C, hC, -⟩ := h
  simp [World.frozen?, hC]
theorem XsAt.congr (h : XsAt w b x) (hl : x.length = y.length) (he : ∀ k, k < x.length → x.getD k 0 = y.getD k 0) : XsAt w b y := by
  obtain ⟨C, hC, h2, h3⟩ := h
  exact ⟨C, hC, by omega, fun k hk => by rw [← he k (by omega)]; exact h3 k (by omega)⟩
theorem XsAt.set (h : XsAt w b x) (hk : k < x.length) (v : Int) : XsAt (w.setCell ⟨b, k, none⟩ (.int .i64 v)) b (x.set k v) := by
  obtain ⟨C, hC, h2, h3⟩ := h
  refine ⟨C.setIfInBounds k (.int .i64 v), by simp [World.setCell, Array.getElem?_modify, hC], by simpa using h2, fun j hj => ?_⟩
  have hj' : j < x.length := by simpa using hj
  rw [getD_set]
  by_cases e : k = j
  · subst e
    rw [if_pos ⟨rfl, hk⟩]
    have : k < C.size := by omega
    simp [this]
  · rw [if_neg (fun hh => e hh.1), Array.getElem?_setIfInBounds_ne e]
    exact h3 j hj'
theorem XsAt.ints (h : XsAt w b x) {n cap : Nat} (hn : x.length = n) (hc : n ≤ cap) (hm : cap ≤ 9223372036854775807) (hf : Fits x) : IntsAt w (.slice (some ⟨b, 0, none⟩) n cap) x := by
  refine ⟨⟨_, n, cap, rfl, by simp [_root_.Go.Proofs.ints, hn], hc, by simpa [maxLen] using hm, fun _ => ⟨b, 0, rfl, fun j v hv => ?_⟩⟩, hf⟩
  have hj : j < x.length := by have := (List.getElem?_eq_some_iff.1 hv).1; simpa [_root_.Go.Proofs.ints] using this
  rw [Nat.zero_add, h.cell hj, ← hv]
  simp [_root_.Go.Proofs.ints, hj, List.getD_eq_getElem?_getD]
end
/-- p reads as P by blocks below n₀ -/
def PcB (n₀ : Nat) (w : World) (v0 v1 v2 : Value) (P : PcD) : Prop := ∀ w' : World, (∀ k, k < n₀ → w'.heap[k]? = w.heap[k]?) → PcAt w' v0 v1 v2 P
theorem PcB.at_ {n₀ : Nat} {w : World} {v0 v1 v2 : Value} {P : PcD} (h : PcB n₀ w v0 v1 v2 P) : PcAt w v0 v1 v2 P := h w fun _ _ => rfl
theorem PcB.keep {n₀ : Nat} {w w' : World} {v0 v1 v2 : Value} {P : PcD} (h : PcB n₀ w v0 v1 v2 P) (hk : ∀ k, k < n₀ → w'.heap[k]? = w.heap[k]?) : PcB n₀ w' v0 v1 v2 P := fun w'' hw => h w'' fun k hk' => (hw k hk').trans (hk k hk')
theorem PcB.grown {n₀ bx : Nat} {w w' : World} {v0 v1 v2 : Value} {P : PcD} (h : PcB n₀ w v0 v1 v2 P) (hg : w.grownBy w' (some bx)) (hb : n₀ ≤ bx) (hx : bx < w.heap.size) : PcB n₀ w' v0 v1 v2 P :=
  h.keep fun k hk => hg.block k (by omega) (fun e => by cases e; omega)
theorem PcB.below {n₀ m : Nat} {w w' : World} {v0 v1 v2 : Value} {P : PcD} (h : PcB n₀ w v0 v1 v2 P) (hb : Below m w w') (hm : n₀ ≤ m) : PcB n₀ w' v0 v1 v2 P :=
  h.keep fun k hk => hb.block k (by omega)
section
variable {ops : Array Oper} {rest : List Oper} {o : Oper} {a : Act} {w w' : World} {Q : Exit → Act → World → Prop} {v : Value}
theorem wpList_sel (s : Nat) {op : Op} {t : TypeId} {p : String} {af : Array Edge} {g : Option (Nat × Bool)} (h : wpList Try.prog ops Q (⟨some s, op, t, p, af, g⟩ :: rest) a w) : wpList Try.prog ops Q (⟨some s, op, t, p, af, g⟩ :: rest) a w := h
theorem wpList_val (hg : o.guard = none) (hrun : (execOp a.eval o).run Try.prog w = .ok (.value v) w') (h : wpList Try.prog ops Q rest (a.put o.dst v) w') : wpList Try.prog ops Q (o :: rest) a w :=
  wpList_plain hg fun _ hK => by
    unfold Oper.wp
    rw [hrun]
    exact hK _ _ h
end
theorem info3p : ∃ i, Try.prog.info? 3 = some i ∧ i.zero = some (.int .i64 0) ∧ i.size = 1 ∧ i.bytes = 8 := by
  have h : (Try.prog.info? 3).map (fun i => (i.zero, i.size, i.bytes)) = some (some (.int .i64 0), 1, 8) := by kernel_rfl
  cases hq : Try.prog.info? 3 with
  | none => simp [hq] at h
  | some i => simp [hq] at h; exact ⟨i, rfl, h⟩
theorem src_ints {w : World} {v : Value} {y : List Int} (h : IntsAt w v y) : Src Try.prog 1 22 v y.length (ints y) w := by
  obtain ⟨⟨A, n, cap, rfl, hn, hc, hm, hr⟩, -⟩ := h
  have hl : n = y.length := by simpa [ints] using hn
  subst hl
  rcases Nat.eq_zero_or_pos y.length with h0 | h0
  · obtain rfl : y = [] := List.length_eq_zero_iff.1 h0
    cases A with
    | none => exact Src.ofNil w Try.underlying22 cap
    | some a => exact Src.ofSlice w Try.underlying22 a 0 cap [] rfl (fun j u hu => by simp at hu) (fun u hu => by cases hu)
  · obtain ⟨b, off, rfl, hrow⟩ := hr h0
    exact Src.ofSlice w Try.underlying22 _ _ cap (ints y) (by simp [ints]) (fun j u hu => by rw [Addr.add_lit]; exact hrow j u hu) (fun u hu => by obtain ⟨x, -, rfl⟩ := List.mem_map.1 hu; rfl)
/-- append([]int{}, y...): the copy lies in a block of its own -/
theorem run_copy {w : World} {b : Nat} {v : Value} {y : List Int} (hb : w.heap[b]? = some (.cells #[] 3 (0, 0))) (h : IntsAt w v y) (hl : y.length ≤ 1000) :
    ∃ (b' cap : Nat) (w' : World), (Builtin.append_ #[22, 22] 22 #[.slice (some ⟨b, 0, none⟩) 0 0, v]).run Try.prog w = .ok (.slice (some ⟨b', 0, none⟩) y.length cap) w' ∧
      Below w.heap.size w w' ∧ XsAt w' b' y ∧ y.length ≤ cap ∧ cap ≤ 9223372036854775807 ∧ (b' = b ∨ b' = w.heap.size) := by
  obtain ⟨i, hi, hz, hs, hby⟩ := info3p
  have hsrc := src_ints h
  rcases Nat.eq_zero_or_pos y.length with h0 | h0
  · obtain rfl : y = [] := List.length_eq_zero_iff.1 h0
    have := run_append_room_src (P := Try.prog) w 22 22 22 3 i Try.underlying22 hi b 0 0 0 v 0 [] (by rw [hs]; exact hsrc) (Nat.le_refl _) (fun j hj => absurd hj (by simp)) (fun j hj => absurd hj (by simp))
    exact ⟨b, 0, w, this, Below.refl _ _, ⟨_, hb, Nat.zero_le _, fun k hk => absurd hk (by simp)⟩, Nat.le_refl _, by simp, .inl rfl⟩
  · have hold : (Builtin.firstCells i.size 0 (.slice (some ⟨b, 0, none⟩) 0 0)).run Try.prog w.drew = .ok ([] : List Value).toArray w.drew := by
      rw [hs]
      exact run_firstCells_some w.drew 1 0 ⟨b, 0, none⟩ 0 0 [] rfl (fun j u hu => by simp at hu)
    have hg := run_append_grow_src (P := Try.prog) w 22 22 22 3 i (.int .i64 0) Try.underlying22 hi hz (some ⟨b, 0, none⟩) 0 0 [] hold v y.length (ints y) (by rw [hs]; exact hsrc) (by omega) (by omega) (growslice_fits (by omega) (by rw [hby]; omega))
    simp only [Nat.zero_add, List.nil_append] at hg
    refine ⟨w.heap.size, _, _, hg, ⟨rfl, rfl, rfl, by simp, fun k hk => (Below.heap_alloc w.drew _ k hk)⟩, ⟨_, heap_alloc_new w.drew _, by simp [ints], fun k hk => ?_⟩, grownCap_ge w _ _ _, ?_, .inr rfl⟩
    · rw [Array.getElem?_append_left (by simpa [ints] using hk)]
      simp [ints, hk, List.getD_eq_getElem?_getD]
    · have := grownCap_le_maxLen w y.length 0 3 (by unfold maxLen; omega)
      simpa [maxLen] using this
end Go.Proofs
namespace Go.Proofs
open Go.RowKit Go.Proofs.Pc
theorem eq12_nil {P : PcD} (hv : Valid P) {x : List Int} (hx : NV P x) : eq12 x [] = decide (x = zV P) := by
  have h12 := hv.n12
  unfold eq12
  rw [Bool.eq_iff_iff, List.all_eq_true, decide_eq_true_iff]
  constructor
  · intro h
    refine ext_len hx.1 (length_zV P) fun k hk => ?_
    have := h k (by simp; omega)
    rw [getD_zV]
    simpa using this
  · rintro rfl k hk
    rw [getD_zV]; rfl
theorem store_vec_at (w : World) (x : List Int) (k : Nat) (h : w.heap.size = k) : Sem.run Try.prog (storeCells ⟨k, 0, none⟩ (vec x)) (w.alloc (.cells #[.int .i64 0, .int .i64 0, .int .i64 0, .int .i64 0, .int .i64 0, .int .i64 0, .int .i64 0, .int .i64 0, .int .i64 0, .int .i64 0, .int .i64 0, .int .i64 0] 87)) =
    .ok () (w.alloc (.cells (vec x).toArray 87)) := by subst h; exact store_vec_new w x
def PerPost (P : PcD) (x : List Int) (w : World) (e : Ending) (w' : World) : Prop := (∃ n : Nat, IsPer P x n ∧ (n : Int) ≤ 50000 ∧ e = .returned (.int .i64 n)) ∧ Below w.heap.size w w'
set_option maxRecDepth 100000 in
set_option maxHeartbeats 1000000 in
theorem period_any {P : PcD} (hv : Valid P) (hc : consB P = true) (hp : prod P P.n ≤ 50000) (w : World) (br : Nat) (x : List Int) (hr : RulesAt w br P) (hx : NV P x) :
    Calls Try.prog 77 #[.pointer (some ⟨br, 0, none⟩), .agg (vec x).toArray] w (PerPost P x w) := by
  obtain ⟨N, hN, hN2⟩ := per_exists hv hc hx
  have hst := store_vec_at
  have hN1 := hN.pos
  have hN3 : (N : Int) ≤ 50000 := by omega
  have hb2 := allocs_below [.cells (vec x).toArray 87, .cells (vec x).toArray 87] w _ (Nat.le_refl _)
  have hg2 := allocs_get [.cells (vec x).toArray 87, .cells (vec x).toArray 87] w
  have HB : Hid (Below w.heap.size w ((w.alloc (.cells (vec x).toArray 87)).alloc (.cells (vec x).toArray 87))) := Lib.hid hb2
  have H0 : Hid (((w.alloc (.cells (vec x).toArray 87)).alloc (.cells (vec x).toArray 87)).heap[w.heap.size]? = some (.cells (vec x).toArray 87 (0, 0))) := Lib.hid (hg2 0 _ rfl)
  have H1 : Hid (((w.alloc (.cells (vec x).toArray 87)).alloc (.cells (vec x).toArray 87)).heap[w.heap.size + 1]? = some (.cells (vec x).toArray 87 (0, 0))) := Lib.hid (hg2 1 _ rfl)
  have HR := Lib.hid hr
  have HX := Lib.hid hx
  have HN := Lib.hid hN
  clear hr hx hb2 hg2 hN hN2
  go_enter Try.func77, Try.ntmps77
  go_wp2_with (refine wpList_load_mid rfl 87 (.tmp 3) rfl w.heap.size 0 rfl (vec x) _ (range_new _ _) Try.underlying87 rfl (by rw [length_vec]; exact info82) ?_)
  generalize (w.alloc (.cells (vec x).toArray 87)).alloc (.cells (vec x).toArray 87) = W at *
  go_loopw [5, 6] (fun s5 s6 wr => ∃ j : Nat, 1 ≤ j ∧ j ≤ N ∧ s5 = .int .i64 j ∧ (∃ b : Nat, s6 = .pointer (some ⟨b, 0, none⟩) ∧ w.heap.size < b ∧ wr.heap[b]? = some (.cells (vec (npow P x j)).toArray 87 (0, 0))) ∧ wr.heap[w.heap.size]? = some (.cells (vec x).toArray 87 (0, 0)) ∧ Below w.heap.size w wr) (fun s _ _ => N - (intOf s).toNat)
  case atStart => exact ⟨1, Nat.le_refl _, by omega, by go_num, ⟨w.heap.size + 1, rfl, by omega, by rw [npow_one hv HX.out]; exact H1.out⟩, H0.out, HB.out⟩
  case round =>
    obtain ⟨j, hj1, hj2, rfl, ⟨b, rfl, hb, hY⟩, hX0, hB⟩ := hrel
    have hny := npow_NV hv (x := x) j
    have hcmp := eq12_nil hv hny
    have HNY := Lib.hid hny
    have HY := Lib.hid hY
    have HX0 := Lib.hid hX0
    have HB := Lib.hid hB
    have HS := Lib.hid (npow_succ (P := P) x j)
    by_cases h0 : npow P x j = zV P
    · have hjN : j = N := by
        rcases Nat.lt_or_ge j N with h | h
        · exact absurd h0 (HN.out.least j hj1 h)
        · omega
      subst hjN
      rw [decide_eq_true h0] at hcmp
      generalize npow P x j = y at *
      have HC : Hid ((!eq12 y []) = false) := Lib.hid (by rw [hcmp]; rfl)
      clear h0 hcmp hny hY hX0 hB
      go_wp2_with (first
        | (refine wpList_load_mid rfl 87 (.tmp 6) rfl b 0 rfl (vec y) _ (range_of_heap HY.out) Try.underlying87 rfl (by rw [length_vec]; exact info82) ?_)
        | ((with_reducible refine wpList_sel 10 ?_); refine wpList_val rfl (r_neq82 (.tmp 8) (.tmp 9) y [] rfl rfl rfl) ?_; rw [HC.out]))
      go_ret
      exact ⟨⟨j, HN.out, hN3, rfl⟩, HB.out⟩
    · have hjN : j < N := by
        rcases Nat.lt_or_ge j N with h | h
        · exact h
        · obtain rfl : j = N := by omega
          exact absurd HN.out.one h0
      rw [decide_eq_false h0] at hcmp
      generalize npow P x j = y at *
      have HC : Hid ((!eq12 y []) = true) := Lib.hid (by rw [hcmp]; rfl)
      have hbl : b < wr.heap.size := (Array.getElem?_eq_some_iff.1 hY).1
      have hal : Below wr.heap.size wr (wr.alloc (.cells (vec y ++ vec x).toArray 87)) := (Below.refl _ _).alloc (Nat.le_refl _) _
      have hrr := (KC.of_below (hB.trans (hal.mono hB.size))).rules HR.out
      have HRR := Lib.hid hrr
      clear h0 hcmp hny hY hX0 hB hrr
      go_wp2_with (first
        | ((with_reducible refine wpList_sel 8 ?_); refine wpList_load_mid rfl 87 (.tmp 6) rfl b 0 rfl (vec y) _ (range_of_heap HY.out) Try.underlying87 rfl (by rw [length_vec]; exact info82) ?_)
        | ((with_reducible refine wpList_sel 10 ?_); refine wpList_val rfl (r_neq82 (.tmp 8) (.tmp 9) y [] rfl rfl rfl) ?_; rw [HC.out])
        | ((with_reducible refine wpList_sel 14 ?_); refine wpList_load_mid rfl 87 (.tmp 6) rfl b 0 rfl (vec y) _ (range_of_heap HY.out) Try.underlying87 rfl (by rw [length_vec]; exact info82) ?_)
        | ((with_reducible refine wpList_sel 15 ?_); refine wpList_load_mid rfl 87 (.tmp 3) rfl w.heap.size 0 rfl (vec x) _ (range_of_heap HX0.out) Try.underlying87 rfl (by rw [length_vec]; exact info82) ?_)
        | ((with_reducible refine wpList_sel 16 ?_); refine wpList_bslice2 rfl (.tmp 14) (.tmp 15) rfl y x rfl rfl ?_)
        | (go_at_call 73; (refine (mul_R1 hv HRR.out (vecs2 wr y x) HNY.out HX.out).mono ?_); rintro e w3 ⟨v, rfl, rfl, hb3⟩
           have hb3' : Below wr.heap.size wr w3 := hal.trans (hb3.mono hal.size)
           have H3Y := Lib.hid ((hb3'.block b hbl).trans HY.out)
           have H3X := Lib.hid ((hb3'.block _ (Array.getElem?_eq_some_iff.1 HX0.out).1).trans HX0.out)
           have H3B := Lib.hid (HB.out.trans (hb3'.mono HB.out.size))
           have H3R := Lib.hid (setRow_heap w3 b _ (vec (mulP P y x)).toArray 87 (0, 0) H3Y.out)
           have H3S : Hid ((w3.setRow b (vec (mulP P y x)).toArray).heap.size = w3.heap.size) := Lib.hid (by rw [World.setRow]; simp)
           have hbl3 : w.heap.size < w3.heap.size := by have := (Array.getElem?_eq_some_iff.1 H3X.out).1; exact this
           clear hb3 hb3')
        | (refine wpList_store_row rfl 87 (.tmp 6) (.tmp 17) rfl b 87 _ (vec (mulP P y x)).toArray rfl rfl H3Y.out (by rw [size_vec]; exact info82) rfl (oneCell_vec _) ?_)
        | ((with_reducible refine wpList_sel 18 ?_); refine wpList_load_mid rfl 87 (.tmp 6) rfl b 0 rfl (vec (mulP P y x)) _ (range_of_heap H3R.out) Try.underlying87 rfl (by rw [length_vec]; exact info82) ?_))
      have hbs := below_setRow H3B.out (show w.heap.size ≤ b by omega) (vec (mulP P y x)).toArray
      go_roundw
      case rel =>
        have hnew := heap_alloc_new (w3.setRow b (vec (mulP P y x)).toArray) (.cells (vec (mulP P y x)).toArray 87)
        rw [H3S.out] at hnew
        exact ⟨j + 1, by omega, by omega, by go_num, ⟨_, rfl, hbl3, by rw [HS.out]; exact hnew⟩, (Below.heap_alloc _ _ _ (by rw [H3S.out]; omega)).trans ((setRow_other w3 b _ _ (by omega)).trans H3X.out), hbs.alloc hbs.size _⟩
      case measure => simp [intOf]; omega
end Go.Proofs
