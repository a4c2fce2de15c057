/- smith.Powers; The prime powers of numbers that divide one another, plainly; Numbers of the primes up to 11, each of which divides the next one: their powers, sorted; Join undoes Powers, plainly; Join undoes Powers for numbers each of which divides the next one; slices.Clone and slices.Reverse at pairs, slices.Reverse at ints, smith.power. -/
import Derived.Test.YthfachbkcmifbaaNaCS8
import Derived.Test.YthfachbkcmifbaaNaCS5
import Derived.Shelf.SlicesQ.Reverse
import Derived.Shelf.Slices.Reverse
import Derived.Ground.SlgnProg
import Derived.Ground.NamesProg
import Derived.Lib.SlKeysI
namespace Go.Proofs
open Go.RowKit Go.Shelf Go.Proofs.Sm
def facs (l : List Int) : List Pr := l.flatMap fun x => factN x.toNat
def badT (x : Int) : Bool := decide (x < 2) || decide (1000000000 < x)
def powersE (l : List Int) : List Pr × Int := if 100 < l.length then ([], 4) else if l.any badT = true then ([], 2) else (sortP (facs l), 0)
theorem facs_len {l : List Int} (h : ∀ x ∈ l, badT x = false) : (facs l).length ≤ 29 * l.length := by
  induction l with
  | nil => exact Nat.le_refl _
  | cons x l ih =>
    have h1 := h x (List.mem_cons_self ..)
    have h2 := ih fun y hy => h y (List.mem_cons_of_mem _ hy)
    have h3 : facs (x :: l) = factN x.toNat ++ facs l := rfl
    have h4 : x.toNat ≤ 1000000000 := by
      unfold badT at h1
      simp at h1
      omega
    have := factN_len h4
    rw [h3, List.length_append, List.length_cons]
    omega
theorem facs_succ {l : List Int} {k : Nat} (h : k < l.length) : facs (l.take k) ++ factN (l.getD k 0).toNat = facs (l.take (k + 1)) := by
  rw [List.take_succ_eq_append_getElem h, List.getD_eq_getElem?_getD, List.getElem?_eq_getElem h]
  unfold facs
  rw [List.flatMap_append, List.flatMap_cons, List.flatMap_nil, List.append_nil]
  rfl
theorem take_good {l : List Int} {k : Nat} (h : ∀ j, j < k → badT (l.getD j 0) = false) : ∀ x ∈ l.take k, badT x = false := fun x hx => by
  obtain ⟨j, hj, rfl⟩ := List.getElem_of_mem hx
  have hj' : j < k ∧ j < l.length := by rw [List.length_take] at hj; omega
  have := h j hj'.1
  rw [List.getD_eq_getElem?_getD, List.getElem?_eq_getElem hj'.2] at this
  rw [List.getElem_take]
  exact this
theorem good_succ {l : List Int} {k : Nat} (h : ∀ j, j < k → badT (l.getD j 0) = false) (h2 : badT (l.getD k 0) = false) : ∀ j, j < k + 1 → badT (l.getD j 0) = false := fun j hj => by
  rcases Nat.lt_or_ge j k with h3 | h3
  · exact h j h3
  · rw [show j = k by omega]; exact h2
def PowersPost (r : List Pr × Int) (w : World) (e : Ending) (w' : World) : Prop := (∃ A c, e = .returned (.tuple #[.slice A r.1.length c, .int .i64 r.2]) ∧ OwnP w.heap.size w' (.slice A r.1.length c) r.1) ∧ Below w.heap.size w w'
theorem powersE_bad {l : List Int} (h1 : ¬ 100 < l.length) {k : Nat} (hk : k < l.length) (hb : badT (l.getD k 0) = true) : powersE l = ([], 2) := by
  unfold powersE
  rw [if_neg h1, if_pos]
  rw [List.any_eq_true]
  exact ⟨l.getD k 0, by rw [List.getD_eq_getElem?_getD, List.getElem?_eq_getElem hk]; exact List.getElem_mem hk, hb⟩
theorem powersE_good {l : List Int} (h1 : ¬ 100 < l.length) (h : ∀ j, j < l.length → badT (l.getD j 0) = false) : powersE l = (sortP (facs l), 0) := by
  unfold powersE
  rw [if_neg h1, if_neg]
  rw [Bool.not_eq_true, List.any_eq_false]
  intro x hx
  have := take_good (k := l.length) h x (by rw [List.take_length]; exact hx)
  rw [this]
  decide
set_option maxRecDepth 100000 in
set_option maxHeartbeats 1000000 in
theorem powers27_any (w : World) (v : Value) (l : List Int) (h : IntsAt w v l) : Calls Try.prog 27 #[v] w (PowersPost (powersE l) w) := by
  have hfit := h.2
  obtain ⟨A0, c0, rfl, hc1, hc2, hcc⟩ := h.open_
  obtain ⟨R, hR⟩ : ∃ R, R = powersE l := ⟨_, rfl⟩
  rw [← hR]
  have HR := Lib.hid hR
  have HCC := Lib.hid hcc
  have HFIT := Lib.hid hfit
  clear h hR hcc hfit
  by_cases hlong : 100 < l.length
  · have HE : Hid (R = ([], 4)) := Lib.hid (by rw [HR.out]; unfold powersE; rw [if_pos hlong])
    have hd : (100 : Int) < (l.length : Int) := by omega
    go_enter Try.func27, Try.ntmps27
    go_wp2_with fail
    go_ret2
    rw [HE.out]
    exact ⟨⟨_, _, rfl, OwnP.nil _ _⟩, Below.refl _ _⟩
  · have hd : ¬ (100 : Int) < (l.length : Int) := by omega
    have hlb : (l.length : Int) ≤ 100 := by omega
    go_enter Try.func27, Try.ntmps27
    go_wp2_with fail
    go_loopw [4, 14] (fun zo zi wr => ∃ (k m : Nat) (A : Option Addr) (c : Nat), k ≤ l.length ∧ zi = .int .i64 k ∧ zo = .slice A m c ∧ Hid (OwnP w.heap.size wr (.slice A m c) (facs (l.take k)) ∧ m = (facs (l.take k)).length ∧ Below w.heap.size w wr ∧ ∀ j, j < k → badT (l.getD j 0) = false)) (fun _ zi _ => l.length - (intOf zi).toNat)
    case atStart => exact ⟨0, 0, none, 0, by omega, rfl, rfl, Lib.hid ⟨OwnP.nil _ _, rfl, Below.refl _ _, fun j hj => absurd hj (by omega)⟩⟩
    case round =>
      obtain ⟨k, m, A, c, hk, rfl, rfl, HI⟩ := hrel
      have hk0 : (0 : Int) ≤ (k : Int) := Int.natCast_nonneg _
      by_cases hkl : k < l.length
      · have hkl' : (k : Int) < (l.length : Int) := by omega
        obtain ⟨bo, oo, rfl, hcell⟩ := HCC.out (by omega)
        have hx := hcell k hkl
        have hx2 := (HI.out.2.2.1.cell (p := ⟨bo, oo + k, none⟩) (World.block_lt_of_cell? w _ hx)).trans hx
        have HBD := Lib.hid fun h => powersE_bad hlong hkl h
        have HSU := Lib.hid (facs_succ hkl)
        have HAL := Lib.hid (good_succ HI.out.2.2.2)
        clear hx hcell
        generalize l.getD k 0 = x at *
        by_cases hb : x < 1 ∨ 1000000000 < x
        · have HF := Lib.hid (factors45_no wr x hb)
          have HE : Hid (R = ([], 2)) := Lib.hid (by rw [HR.out]; exact HBD.out (by unfold badT; rcases hb with hb | hb <;> simp <;> omega))
          clear hb
          go_wp2_with (go_at_call 45; (refine HF.out.mono ?_); rintro e w1 ⟨rfl, rfl⟩)
          go_ret2
          rw [HE.out]
          exact ⟨⟨_, _, rfl, OwnP.nil _ _⟩, HI.out.2.2.1⟩
        · obtain ⟨y, rfl⟩ : ∃ y : Nat, x = (y : Int) := ⟨x.toNat, by omega⟩
          have hy1 : 1 ≤ y := by omega
          have hy2 : y ≤ 1000000000 := by omega
          have HF := Lib.hid (factors45_yes wr y hy1 hy2)
          rw [Int.toNat_natCast] at HSU
          have hlen := factN_len hy2
          clear hb
          by_cases h1 : y = 1
          · have HE : Hid (R = ([], 2)) := Lib.hid (by rw [HR.out]; exact HBD.out (by unfold badT; simp; omega))
            subst h1
            have h11 : ((1 : Nat) : Int) = 1 := rfl
            rw [h11] at hx2 HF
            clear h11
            go_wp2_with (go_at_call 45; (refine HF.out.mono ?_); rintro e w1 ⟨A2, c2, rfl, ho, hb⟩; have HO := Lib.hid (And.intro ho hb); clear ho hb)
            go_ret2
            rw [HE.out]
            exact ⟨⟨_, _, rfl, OwnP.nil _ _⟩, HI.out.2.2.1.trans (HO.out.2.mono HI.out.2.2.1.size)⟩
          · have hne : ((y : Int) == 1) = false := by simp; omega
            have HNB : Hid (badT (y : Int) = false) := Lib.hid (by unfold badT; simp; omega)
            have hfl := facs_len (take_good HI.out.2.2.2)
            have hkt : (l.take k).length ≤ 100 := by rw [List.length_take]; omega
            clear h1
            go_wp2_with (first
              | (go_at_call 45; (refine HF.out.mono ?_); rintro e w1 ⟨A2, c2, rfl, ho, hb⟩
                 obtain ⟨A', c', w', hr, ho', hg, -⟩ := run_append_prs (ps := facs (l.take k)) (qs := factN y) (base := w.heap.size) (v := .slice A m c) (.slice A2 (factN y).length c2) (owns_below HI.out.1 hb) (OwnP.prs ho) (by omega) (by omega) (Nat.le_trans HI.out.2.2.1.size hb.size)
                 have HRUN := Lib.hid hr
                 have HN : Hid (OwnP w.heap.size w' (.slice A' (facs (l.take k) ++ factN y).length c') (facs (l.take (k + 1))) ∧ (facs (l.take k) ++ factN y).length = (facs (l.take (k + 1))).length ∧ Below w.heap.size w w' ∧ ∀ j, j < k + 1 → badT (l.getD j 0) = false) := Lib.hid (by
                   refine ⟨by rw [← HSU.out]; exact ho', by rw [HSU.out], (HI.out.2.2.1.trans (hb.mono HI.out.2.2.1.size)).grown hg (Nat.le_trans HI.out.2.2.1.size hb.size) (fun r hr => (OwnP.block HI.out.1 r hr).1), HAL.out HNB.out⟩)
                 clear ho hb hr ho' hg)
              | ((with_reducible refine wpList_sel 31 ?_); refine wpList_val rfl (r_app (.tmp 29) (.tmp 30) 53 rfl rfl rfl HRUN.out) ?_))
            go_roundw
            case rel => exact ⟨k + 1, _, A', c', by omega, by go_num, rfl, Lib.hid (by have h := HN.out; rw [List.length_append] at h; exact h)⟩
            case measure => simp [intOf]; omega
      · obtain rfl : k = l.length := by omega
        have hfl := facs_len (take_good HI.out.2.2.2)
        have hkt : (l.take l.length).length ≤ 100 := by rw [List.length_take]; omega
        have HS := Lib.hid (sort46_any w.heap.size wr (.slice A m c) _ HI.out.1 (by omega))
        have HE : Hid (R = (sortP (facs l), 0)) := Lib.hid (by rw [HR.out]; exact powersE_good hlong HI.out.2.2.2)
        have HM : Hid (m = (sortP (facs l)).length) := Lib.hid (by rw [HI.out.2.1, List.take_length, sortP_length])
        clear hfl hkt
        go_wp2_with (go_at_call 46; (refine HS.out.mono ?_); rintro e w1 ⟨rfl, ho, hb⟩; have HO := Lib.hid (And.intro ho hb); clear ho hb)
        go_ret2
        have h1 := HO.out.1
        rw [List.take_length] at h1
        rw [HM.out] at h1 ⊢
        rw [HE.out]
        exact ⟨⟨A, c, rfl, h1⟩, HI.out.2.2.1.trans HO.out.2⟩
end Go.Proofs
namespace Go.Proofs
open Go.RowKit Go.Shelf Go.Proofs.Sm
/-- a product of powers -/
def prodP : List (Nat × Nat) → Nat
  | [] => 1
  | x :: r => x.1 ^ x.2 * prodP r
theorem prm_coprime {q k : Nat} (hq : Prm q) (h1 : 1 ≤ k) (h2 : k < q) : Nat.Coprime k q := by
  have hg1 : Nat.gcd k q ∣ q := Nat.gcd_dvd_right k q
  have hg2 : Nat.gcd k q ≤ k := Nat.gcd_le_left q h1
  have hg0 : 0 < Nat.gcd k q := Nat.gcd_pos_of_pos_left q h1
  rcases Nat.lt_or_ge (Nat.gcd k q) 2 with h | h
  · show Nat.gcd k q = 1
    omega
  · exact absurd (Nat.mod_eq_zero_of_dvd hg1) (hq.2 _ h (by omega))
theorem prodP_pos : ∀ {r : List (Nat × Nat)}, (∀ x ∈ r, Prm x.1) → 1 ≤ prodP r
  | [], _ => Nat.le_refl _
  | x :: r, h => by
    have h1 := prodP_pos (r := r) fun y hy => h y (List.mem_cons_of_mem _ hy)
    have h2 := (h x (List.mem_cons_self ..)).1
    have h3 : 0 < x.1 ^ x.2 := Nat.pow_pos (by omega)
    exact Nat.mul_pos h3 h1
theorem no_div {p k : Nat} (h2 : 2 ≤ k) (hk : k ≤ p) : ∀ {r : List (Nat × Nat)}, (∀ x ∈ r, Prm x.1 ∧ p < x.1) → ¬ k ∣ prodP r
  | [], _, hd => by
    have := Nat.le_of_dvd (by decide) (show k ∣ 1 from hd)
    omega
  | x :: r, h, hd => by
    obtain ⟨h3, h4⟩ := h x (List.mem_cons_self ..)
    have hc : Nat.Coprime k (x.1 ^ x.2) := Nat.Coprime.pow_right x.2 (prm_coprime h3 (by omega) (by omega))
    exact no_div h2 hk (r := r) (fun y hy => h y (List.mem_cons_of_mem _ hy)) (Nat.Coprime.dvd_of_dvd_mul_left hc hd)
theorem divN_prod {p e : Nat} {r : List (Nat × Nat)} (hp : Prm p) (h : ∀ x ∈ r, Prm x.1 ∧ p < x.1) (he : 1 ≤ e) : divN (p ^ e * prodP r) = p := by
  obtain ⟨n, hn⟩ : ∃ n, n = p ^ e * prodP r := ⟨_, rfl⟩
  rw [← hn]
  have hpn : p ∣ n := by
    rw [hn]
    obtain ⟨e', rfl⟩ : ∃ e', e = e' + 1 := ⟨e - 1, by omega⟩
    rw [Nat.pow_succ]
    exact Nat.dvd_trans (Nat.dvd_mul_left p _) (Nat.dvd_mul_right _ _)
  have hR := prodP_pos (r := r) fun x hx => (h x hx).1
  have hp2 := hp.1
  have hpos : 0 < n := by rw [hn]; exact Nat.mul_pos (Nat.pow_pos (by omega)) hR
  have hno : ∀ k, 2 ≤ k → k < p → ¬ k ∣ n := fun k h1 h3 hd => by
    rw [hn] at hd
    exact no_div h1 (Nat.le_of_lt h3) h (Nat.Coprime.dvd_of_dvd_mul_left (Nat.Coprime.pow_right e (prm_coprime hp (by omega) h3)) hd)
  have hple : p ≤ n := Nat.le_of_dvd hpos hpn
  rcases divF_spec (n := n) (f := n) (d := 2) (by omega) (by omega) with ⟨a, b, c, d⟩ | ⟨a, b⟩
  · show divF n 2 n = p
    have h1 : divF n 2 n ∣ n := Nat.dvd_of_mod_eq_zero c
    rcases Nat.lt_trichotomy (divF n 2 n) p with h3 | h3 | h3
    · exact absurd h1 (hno _ b h3)
    · exact h3
    · exact absurd (Nat.mod_eq_zero_of_dvd hpn) (d p hp2 h3)
  · show divF n 2 n = p
    rw [a]
    obtain ⟨q, hq⟩ := hpn
    rcases Nat.lt_or_ge n (p * p) with h3 | h3
    · have hqp : q < p := by
        rcases Nat.lt_or_ge q p with h4 | h4
        · exact h4
        · have := Nat.mul_le_mul_left p h4
          omega
      rcases q with _ | _ | q
      · omega
      · omega
      · exact absurd ⟨p, by rw [hq, Nat.mul_comm]⟩ (hno (q + 2) (by omega) hqp)
    · exact absurd (Nat.mod_eq_zero_of_dvd ⟨q, hq⟩) (b p hp2 h3)
theorem strip_prod {p R : Nat} (hp : 2 ≤ p) (hR : R % p ≠ 0) : ∀ (e k f : Nat), e ≤ f → stripF p (p ^ e * R) k f = (R, k + e)
  | 0, k, f, _ => by
    rw [Nat.pow_zero, Nat.one_mul]
    cases f with
    | zero => rfl
    | succ f => unfold stripF; rw [if_neg hR]; rfl
  | e + 1, k, f, h => by
    obtain ⟨f', rfl⟩ : ∃ f', f = f' + 1 := ⟨f - 1, by omega⟩
    have h1 : p ^ (e + 1) * R = (p ^ e * R) * p := by rw [Nat.pow_succ, Nat.mul_assoc, Nat.mul_comm p R, ← Nat.mul_assoc]
    unfold stripF
    rw [h1, if_pos (Nat.mul_mod_left _ _), Nat.mul_div_cancel _ (by omega), strip_prod hp hR e (k + 1) f' (by omega)]
    congr 1
    omega
def ents (r : List (Nat × Nat)) : List Pr := r.flatMap fun x => if 0 < x.2 then [((x.1 : Int), (x.2 : Int))] else []
theorem factF_prod : ∀ {r : List (Nat × Nat)} {f : Nat}, (∀ x ∈ r, Prm x.1) → (r.Pairwise fun x y => x.1 < y.1) → prodP r ≤ f → factF (prodP r) f = ents r
  | [], f, _, _, _ => by
    cases f with
    | zero => rfl
    | succ f => unfold factF; rw [if_neg (by decide : ¬ 1 < prodP [])]; rfl
  | x :: r, f, h, hs, hf => by
    obtain ⟨p, e⟩ := x
    have hp := h (p, e) (List.mem_cons_self ..)
    have hr : ∀ y ∈ r, Prm y.1 := fun y hy => h y (List.mem_cons_of_mem _ hy)
    rw [List.pairwise_cons] at hs
    have hl : ∀ y ∈ r, Prm y.1 ∧ p < y.1 := fun y hy => ⟨hr y hy, hs.1 y hy⟩
    have he : ents ((p, e) :: r) = (if 0 < e then [((p : Int), (e : Int))] else []) ++ ents r := rfl
    have hpr : prodP ((p, e) :: r) = p ^ e * prodP r := rfl
    rw [he, hpr]
    rw [hpr] at hf
    have hRp := prodP_pos hr
    rcases Nat.eq_zero_or_pos e with h0 | h0
    · subst h0
      rw [Nat.pow_zero, Nat.one_mul] at hf ⊢
      rw [if_neg (by omega), List.nil_append]
      exact factF_prod hr hs.2 hf
    · rw [if_pos h0]
      have h2 : 2 ≤ p ^ e := Nat.le_trans hp.1 (by
        have := Nat.pow_le_pow_right (show 0 < p by have := hp.1; simp only at this; omega) h0
        rwa [Nat.pow_one] at this)
      have h3 : 2 * prodP r ≤ p ^ e * prodP r := Nat.mul_le_mul_right _ h2
      obtain ⟨f', rfl⟩ : ∃ f', f = f' + 1 := ⟨f - 1, by omega⟩
      unfold factF
      have hlt : e < p ^ e := Nat.lt_pow_self (by have := hp.1; simp only at this; omega)
      have hle : p ^ e ≤ p ^ e * prodP r := Nat.le_mul_of_pos_right _ hRp
      have hmod : prodP r % p ≠ 0 := fun h5 => no_div (k := p) (p := p) hp.1 (Nat.le_refl _) hl (Nat.dvd_of_mod_eq_zero h5)
      rw [if_pos (by omega), divN_prod hp hl h0, strip_prod hp.1 hmod e 0 _ (by omega)]
      rw [factF_prod hr hs.2 (by omega)]
      simp
end Go.Proofs
namespace Go.Proofs
open Go.RowKit Go.Shelf Go.Proofs.Sm
abbrev Vec := Nat → Nat
def P5 : List Nat := [2, 3, 5, 7, 11]
def ex5 (V : Vec) : List (Nat × Nat) := P5.map fun p => (p, V p)
def val (V : Vec) : Nat := prodP (ex5 V)
theorem P5_prm : ∀ p ∈ P5, Prm p := by
  intro p hp
  simp only [P5, List.mem_cons, List.not_mem_nil, or_false] at hp
  rcases hp with rfl | rfl | rfl | rfl | rfl
  all_goals
    refine ⟨by decide, fun e h1 h2 => ?_⟩
    have : e = 2 ∨ e = 3 ∨ e = 4 ∨ e = 5 ∨ e = 6 ∨ e = 7 ∨ e = 8 ∨ e = 9 ∨ e = 10 := by omega
    rcases this with rfl | rfl | rfl | rfl | rfl | rfl | rfl | rfl | rfl <;> first | decide | omega
/-- numbers each of which divides the next one -/
structure Chain (Vs : List Vec) : Prop where
  le : Vs.Pairwise fun A B => ∀ p, A p ≤ B p
  one : ∀ V ∈ Vs, 1 < val V
  bd : ∀ V ∈ Vs, val V ≤ 1000000000
/-- the power of a prime in a number, if it divides it -/
def oneP (p : Nat) (V : Vec) : List Pr := if 0 < V p then [((p : Int), (V p : Int))] else []
theorem factN_val (V : Vec) : factN (val V) = P5.flatMap fun p => oneP p V := by
  have h1 : ents (ex5 V) = P5.flatMap fun p => oneP p V := by
    unfold ents ex5 oneP
    rw [List.flatMap_map]
  rw [← h1]
  refine factF_prod (fun x hx => ?_) ?_ (Nat.le_refl _)
  · obtain ⟨p, hp, rfl⟩ := List.mem_map.1 hx
    exact P5_prm p hp
  · unfold ex5
    rw [List.pairwise_map]
    show P5.Pairwise fun a b => a < b
    decide
theorem facs_val (Vs : List Vec) : facs (Vs.map fun V => ((val V : Nat) : Int)) = Vs.flatMap fun V => P5.flatMap fun p => oneP p V := by
  unfold facs
  rw [List.flatMap_map]
  congr 1
  funext V
  rw [Int.toNat_natCast, factN_val]
theorem flatMap_app_perm {β γ : Type} (g h : β → List γ) : ∀ (bs : List β), (bs.flatMap fun b => g b ++ h b).Perm (bs.flatMap g ++ bs.flatMap h)
  | [] => List.Perm.refl _
  | b :: bs => by
    simp only [List.flatMap_cons]
    have ih := flatMap_app_perm g h bs
    have h1 : (g b ++ h b ++ (bs.flatMap fun b => g b ++ h b)).Perm (g b ++ h b ++ (bs.flatMap g ++ bs.flatMap h)) := ih.append_left _
    refine h1.trans ?_
    rw [List.append_assoc, List.append_assoc]
    refine List.Perm.append_left _ ?_
    rw [← List.append_assoc, ← List.append_assoc]
    exact List.Perm.append_right _ List.perm_append_comm
theorem flatMap_swap {α β γ : Type} (f : α → β → List γ) (bs : List β) : ∀ (xs : List α), (xs.flatMap fun a => bs.flatMap fun b => f a b).Perm (bs.flatMap fun b => xs.flatMap fun a => f a b)
  | [] => by
    have : (bs.flatMap fun _ => ([] : List γ)) = [] := by simp
    simp only [List.flatMap_nil]
    rw [this]
  | a :: xs => by
    simp only [List.flatMap_cons]
    exact ((flatMap_swap f bs xs).append_left _).trans (flatMap_app_perm (fun b => f a b) (fun b => xs.flatMap fun a => f a b) bs).symm
/-- the powers, sorted -/
def srt (Vs : List Vec) : List Pr := P5.flatMap fun p => Vs.flatMap fun V => oneP p V
theorem mem_oneP {p : Nat} {V : Vec} {x : Pr} (h : x ∈ oneP p V) : x.1 = (p : Int) ∧ x.2 = (V p : Int) ∧ 0 < V p := by
  unfold oneP at h
  split at h
  · rename_i h0
    rw [List.mem_singleton] at h
    subst h
    exact ⟨rfl, rfl, h0⟩
  · cases h
theorem srt_sorted {Vs : List Vec} (h : Vs.Pairwise fun A B => ∀ p, A p ≤ B p) : (srt Vs).Pairwise fun a b => leP a b = true := by
  unfold srt
  rw [List.pairwise_flatMap]
  refine ⟨fun p _ => ?_, ?_⟩
  · rw [List.pairwise_flatMap]
    refine ⟨fun V _ => ?_, h.imp fun {A B} hAB x hx y hy => ?_⟩
    · unfold oneP
      split
      · exact List.pairwise_singleton _ _
      · exact List.Pairwise.nil
    · obtain ⟨a1, a2, -⟩ := mem_oneP hx
      obtain ⟨b1, b2, -⟩ := mem_oneP hy
      have := hAB p
      unfold leP
      rw [decide_eq_true_iff]
      omega
  · have hP : P5.Pairwise fun a b => a < b := by decide
    refine hP.imp fun {p q} hpq x hx y hy => ?_
    obtain ⟨A, -, hA⟩ := List.mem_flatMap.1 hx
    obtain ⟨B, -, hB⟩ := List.mem_flatMap.1 hy
    have a1 := (mem_oneP hA).1
    have b1 := (mem_oneP hB).1
    unfold leP
    rw [decide_eq_true_iff]
    omega
theorem sort_facs {Vs : List Vec} (h : Vs.Pairwise fun A B => ∀ p, A p ≤ B p) : sortP (facs (Vs.map fun V => ((val V : Nat) : Int))) = srt Vs := by
  rw [facs_val]
  exact (sortP_unique (flatMap_swap (fun V p => oneP p V) P5 Vs).symm (srt_sorted h)).symm
theorem srt_mem {Vs : List Vec} {x : Pr} (h : x ∈ srt Vs) : ∃ p ∈ P5, ∃ V ∈ Vs, x.1 = (p : Int) ∧ x.2 = (V p : Int) ∧ 0 < V p := by
  obtain ⟨p, hp, h1⟩ := List.mem_flatMap.1 h
  obtain ⟨V, hV, h2⟩ := List.mem_flatMap.1 h1
  exact ⟨p, hp, V, hV, mem_oneP h2⟩
theorem srt_good (Vs : List Vec) : (srt Vs).any badJ = false := by
  rw [List.any_eq_false]
  intro x hx
  obtain ⟨p, hp, V, -, h1, h2, h3⟩ := srt_mem hx
  have hprm := P5_prm p hp
  have hpb : p ≤ 11 := by
    simp only [P5, List.mem_cons, List.not_mem_nil, or_false] at hp
    omega
  have : isE x.1 = true := isE_iff.2 ⟨by have := hprm.1; omega, by omega, by rw [h1, Int.toNat_natCast]; exact hprm⟩
  unfold badJ
  rw [this]
  simp
  omega
theorem oneP_len (p : Nat) (V : Vec) : (oneP p V).length ≤ 1 := by
  unfold oneP
  split <;> simp
theorem flat_len {α : Type} (f : α → List Pr) (k : Nat) : ∀ (l : List α), (∀ a ∈ l, (f a).length ≤ k) → (l.flatMap f).length ≤ l.length * k
  | [], _ => by simp
  | a :: l, h => by
    rw [List.flatMap_cons, List.length_append, List.length_cons, Nat.add_mul, Nat.one_mul]
    have h1 := h a (List.mem_cons_self ..)
    have h2 := flat_len f k l fun b hb => h b (List.mem_cons_of_mem _ hb)
    omega
theorem srt_len (Vs : List Vec) : (srt Vs).length ≤ 5 * Vs.length := by
  have h := flat_len (fun p => Vs.flatMap fun V => oneP p V) Vs.length P5 fun p _ => by
    have := flat_len (fun V => oneP p V) 1 Vs fun V _ => oneP_len p V
    omega
  exact h
/-- the same, the other way round -/
theorem srt_rev (Vs : List Vec) : (srt Vs).reverse = P5.reverse.flatMap fun p => Vs.reverse.flatMap fun V => oneP p V := by
  have h1 : ∀ (p : Nat) (V : Vec), (oneP p V).reverse = oneP p V := fun p V => by unfold oneP; split <;> rfl
  unfold srt
  rw [List.reverse_flatMap]
  congr 1
  funext p
  show (Vs.flatMap fun V => oneP p V).reverse = _
  rw [List.reverse_flatMap]
  congr 1
  funext V
  exact h1 p V
end Go.Proofs
namespace Go.Proofs
open Go.RowKit Go.Shelf Go.Proofs.Sm
/-- a step of Join for a pair -/
def joinX (a : Nat) (o : List Int) (x : Pr) : Option (List Int × Nat) :=
  if (outE o a).getD a 0 * (powE x.1.toNat x.2.toNat : Int) < 1 ∨ 1000000000 < (outE o a).getD a 0 * (powE x.1.toNat x.2.toNat : Int) then none
  else some ((outE o a).set a ((outE o a).getD a 0 * (powE x.1.toNat x.2.toNat : Int)), a + 1)
/-- Join along a list, the prime before it known -/
def joinG : Option Int → List Int × Nat → List Pr → Option (List Int × Nat)
  | _, st, [] => some st
  | pv, st, x :: r => (joinX (if pv = none ∨ pv = some x.1 then st.2 else 0) st.1 x).bind fun st' => joinG (some x.1) st' r
theorem joinG_cons (pv : Option Int) (st : List Int × Nat) (x : Pr) (r : List Pr) : joinG pv st (x :: r) = (joinX (if pv = none ∨ pv = some x.1 then st.2 else 0) st.1 x).bind fun st' => joinG (some x.1) st' r := rfl
def prevOf (L : List Pr) (i : Nat) : Option Int := if i = 0 then none else some (L.getD (i - 1) (0, 0)).1
theorem joinTo_G (L : List Pr) : ∀ (d i : Nat) (st : List Int × Nat), i + d = L.length → joinTo L i = some st → joinTo L L.length = joinG (prevOf L i) st (L.drop i)
  | 0, i, st, h, hs => by
    have : i = L.length := by omega
    subst this
    rw [hs, List.drop_length]
    rfl
  | d + 1, i, st, h, hs => by
    have hi : i < L.length := by omega
    have hx : L.getD i (0, 0) = L[i] := by rw [List.getD_eq_getElem?_getD, List.getElem?_eq_getElem hi]; rfl
    have ha : (if prevOf L i = none ∨ prevOf L i = some L[i].1 then st.2 else 0) = atE L i st.2 := by
      unfold atE prevOf
      rw [hx]
      rcases Nat.eq_zero_or_pos i with h0 | h0
      · subst h0
        simp
      · rw [if_neg (by omega : ¬ i = 0)]
        by_cases he : L[i].1 = (L.getD (i - 1) (0, 0)).1
        · rw [if_pos (.inr (by rw [he])), if_neg (fun hh => hh.2 he)]
        · rw [if_neg, if_pos ⟨h0, he⟩]
          rintro (h1 | h1)
          · cases h1
          · injection h1 with h1
            exact he h1.symm
    rw [List.drop_eq_getElem_cons hi]
    unfold joinG
    rw [ha]
    have hj : joinTo L (i + 1) = joinX (atE L i st.2) st.1 L[i] := by
      show (joinTo L i).bind (joinS L i) = _
      rw [hs, ← hx]
      rfl
    cases h1 : joinX (atE L i st.2) st.1 L[i] with
    | none =>
      rw [h1] at hj
      have := joinTo_none hj d
      rw [show i + 1 + d = L.length by omega] at this
      rw [this]
      rfl
    | some st' =>
      rw [h1] at hj
      rw [joinTo_G L d (i + 1) st' (by omega) hj]
      show joinG (prevOf L (i + 1)) st' _ = joinG (some L[i].1) st' _
      unfold prevOf
      rw [if_neg (by omega), Nat.add_sub_cancel, hx]
/-- factor by factor; what is left over stays -/
def mulB : List Int → List Int → List Int
  | o, [] => o
  | [], y :: ys => y :: ys
  | z :: zs, y :: ys => z * y :: mulB zs ys
theorem mulB_nil : ∀ (o : List Int), mulB o [] = o
  | [] => rfl
  | _ :: _ => rfl
theorem nil_mulB : ∀ (ys : List Int), mulB [] ys = ys
  | [] => rfl
  | _ :: _ => rfl
theorem powE_of {p x : Nat} (h : p ^ x ≤ 1000000000) : powE p x = p ^ x := by unfold powE; rw [if_pos h]
theorem joinG_block {p : Nat} : ∀ (xs : List Nat) (pre o : List Int) (r : List Pr), (∀ z ∈ o, 1 ≤ z) → (∀ x ∈ xs, p ^ x ≤ 1000000000) → (∀ z ∈ mulB o (xs.map fun x => ((p ^ x : Nat) : Int)), 1 ≤ z ∧ z ≤ 1000000000) →
    joinG (some (p : Int)) (pre ++ o, pre.length) ((xs.map fun (x : Nat) => ((p : Int), (x : Int))) ++ r) = joinG (some (p : Int)) (pre ++ mulB o (xs.map fun x => ((p ^ x : Nat) : Int)), pre.length + xs.length) r
  | [], pre, o, r, _, _, _ => by
    rw [List.map_nil, List.map_nil, mulB_nil]
    rfl
  | x :: xs, pre, o, r, ho, hp, hb => by
    have hpw := powE_of (hp x (List.mem_cons_self ..))
    have hps := fun y hy => hp y (List.mem_cons_of_mem x hy)
    rw [List.map_cons, List.map_cons, List.cons_append, joinG_cons, if_pos (.inr rfl)]
    rw [List.map_cons] at hb
    cases o with
    | nil =>
      rw [nil_mulB] at hb ⊢
      have h1 := hb _ (List.mem_cons_self ..)
      have ho1 : outE (pre ++ []) pre.length = pre ++ [1] := by unfold outE; rw [if_pos (by simp), List.append_nil]
      have hj : joinX pre.length (pre ++ []) ((p : Int), (x : Int)) = some (pre ++ [((p ^ x : Nat) : Int)], pre.length + 1) := by
        unfold joinX
        rw [ho1]
        have hg : (pre ++ [(1 : Int)]).getD pre.length 0 = 1 := by simp [List.getD_eq_getElem?_getD]
        simp only [hg, Int.toNat_natCast, hpw, Int.one_mul]
        rw [if_neg (by omega)]
        simp
      show (joinX pre.length (pre ++ []) ((p : Int), (x : Int))).bind _ = _
      rw [hj]
      show joinG (some (p : Int)) (pre ++ [((p ^ x : Nat) : Int)], pre.length + 1) _ = _
      have ih := joinG_block xs (pre ++ [((p ^ x : Nat) : Int)]) [] r (fun z hz => by cases hz) hps (fun z hz => by rw [nil_mulB] at hz; exact hb z (List.mem_cons_of_mem _ hz))
      rw [nil_mulB, List.append_nil, List.length_append] at ih
      rw [show pre.length + 1 = pre.length + [((p ^ x : Nat) : Int)].length from rfl, ih]
      rw [List.append_assoc]
      show joinG _ (_, _ + 1 + xs.length) r = joinG _ (_, _ + (xs.length + 1)) r
      rw [show pre.length + 1 + xs.length = pre.length + (xs.length + 1) by omega]
      rfl
    | cons z zs =>
      have h1 := hb _ (List.mem_cons_self ..)
      have ho1 : outE (pre ++ z :: zs) pre.length = pre ++ z :: zs := by unfold outE; rw [if_neg (by simp)]
      have hj : joinX pre.length (pre ++ z :: zs) ((p : Int), (x : Int)) = some (pre ++ (z * ((p ^ x : Nat) : Int)) :: zs, pre.length + 1) := by
        unfold joinX
        rw [ho1]
        have hg : (pre ++ z :: zs).getD pre.length 0 = z := by simp [List.getD_eq_getElem?_getD]
        simp only [hg, Int.toNat_natCast, hpw]
        rw [if_neg (by omega)]
        simp
      show (joinX pre.length (pre ++ z :: zs) ((p : Int), (x : Int))).bind _ = _
      rw [hj]
      show joinG (some (p : Int)) (pre ++ (z * ((p ^ x : Nat) : Int)) :: zs, pre.length + 1) _ = _
      have ih := joinG_block xs (pre ++ [z * ((p ^ x : Nat) : Int)]) zs r (fun y hy => ho y (List.mem_cons_of_mem _ hy)) hps (fun y hy => hb y (List.mem_cons_of_mem _ hy))
      rw [List.length_append, List.append_assoc, List.append_assoc] at ih
      rw [show pre.length + 1 = pre.length + [z * ((p ^ x : Nat) : Int)].length from rfl]
      rw [show pre ++ (z * ((p ^ x : Nat) : Int)) :: zs = pre ++ ([z * ((p ^ x : Nat) : Int)] ++ zs) from rfl, ih]
      show joinG _ (pre ++ (z * ((p ^ x : Nat) : Int)) :: mulB zs _, _) r = joinG _ (pre ++ (z * ((p ^ x : Nat) : Int)) :: mulB zs _, _) r
      show joinG _ (_, _ + 1 + xs.length) r = joinG _ (_, _ + (xs.length + 1)) r
      rw [show pre.length + 1 + xs.length = pre.length + (xs.length + 1) by omega]
/-- the powers of one prime, from the start -/
theorem joinG_step {p : Nat} (xs : List Nat) (o : List Int) (a : Nat) (pv : Option Int) (r : List Pr) (hpv : ∀ q, pv = some q → (p : Int) < q) (h0 : pv = none → a = 0) (ho : ∀ z ∈ o, 1 ≤ z) (hx : ∀ x ∈ xs, p ^ x ≤ 1000000000) (hb : ∀ z ∈ mulB o (xs.map fun x => ((p ^ x : Nat) : Int)), 1 ≤ z ∧ z ≤ 1000000000) :
    ∃ pv' a', joinG pv (o, a) ((xs.map fun (x : Nat) => ((p : Int), (x : Int))) ++ r) = joinG pv' (mulB o (xs.map fun x => ((p ^ x : Nat) : Int)), a') r ∧ (∀ q, pv' = some q → (p : Int) ≤ q) ∧ (pv' = none → a' = 0) := by
  cases xs with
  | nil => exact ⟨pv, a, by rw [List.map_nil, List.map_nil, mulB_nil]; rfl, fun q hq => Int.le_of_lt (hpv q hq), h0⟩
  | cons x xs =>
    refine ⟨some (p : Int), 0 + (x :: xs).length, ?_, fun q hq => by cases hq; exact Int.le_refl _, fun h => by cases h⟩
    have hB := joinG_block (p := p) (x :: xs) [] o r ho hx hb
    rw [List.nil_append, List.nil_append] at hB
    show joinG pv (o, a) _ = joinG (some (p : Int)) (_, ([] : List Int).length + (x :: xs).length) r
    rw [← hB]
    rw [List.map_cons, List.cons_append, joinG_cons, joinG_cons]
    have e1 : (if pv = none ∨ pv = some (p : Int) then a else 0) = 0 := by
      by_cases h : pv = none ∨ pv = some (p : Int)
      · rw [if_pos h]
        rcases h with h | h
        · exact h0 h
        · exact absurd (hpv _ h) (by omega)
      · rw [if_neg h]
    show (joinX (if pv = none ∨ pv = some (p : Int) then a else 0) o _).bind _ = (joinX (if (some (p : Int) : Option Int) = none ∨ some (p : Int) = some (p : Int) then 0 else 0) o _).bind _
    rw [e1, ite_self]
end Go.Proofs
namespace Go.Proofs
open Go.RowKit Go.Shelf Go.Proofs.Sm
def trim (Z : List Int) : List Int := Z.takeWhile fun z => !(z == 1)
theorem trim_mem {Z : List Int} {z : Int} (h : z ∈ trim Z) : z ∈ Z := (List.takeWhile_sublist _).subset h
theorem trim_one (Z : List Int) : trim (1 :: Z) = [] := rfl
theorem trim_cons {z : Int} (h : z ≠ 1) (Z : List Int) : trim (z :: Z) = z :: trim Z := by
  unfold trim
  rw [List.takeWhile_cons, if_pos (by simpa using h)]
theorem trim_ones : ∀ {Z : List Int}, (∀ z ∈ Z, z = 1) → trim Z = []
  | [], _ => rfl
  | z :: Z, h => by rw [h z (List.mem_cons_self ..)]; rfl
theorem trim_all : ∀ {Z : List Int}, (∀ z ∈ Z, z ≠ 1) → trim Z = Z
  | [], _ => rfl
  | z :: Z, h => by rw [trim_cons (h z (List.mem_cons_self ..)), trim_all fun y hy => h y (List.mem_cons_of_mem _ hy)]
theorem mul_one_iff {x y : Int} (hx : 1 ≤ x) (hy : 1 ≤ y) (h : x * y = 1) : x = 1 ∧ y = 1 := by
  have h1 : x * 1 ≤ x * y := Int.mul_le_mul_of_nonneg_left hy (by omega)
  have h2 : 1 * y ≤ x * y := Int.mul_le_mul_of_nonneg_right hx (by omega)
  rw [Int.mul_one] at h1
  rw [Int.one_mul] at h2
  omega
section
variable {α : Type} {f g : α → Int}
theorem mulB_trim : ∀ {U : List α}, (∀ u ∈ U, 1 ≤ f u ∧ 1 ≤ g u) → (U.Pairwise fun a b => (f a = 1 → f b = 1) ∧ (g a = 1 → g b = 1)) → mulB (trim (U.map f)) (trim (U.map g)) = trim (U.map fun u => f u * g u)
  | [], _, _ => rfl
  | u :: U, h1, hp => by
    rw [List.pairwise_cons] at hp
    obtain ⟨a1, a2⟩ := h1 u (List.mem_cons_self ..)
    have ih := mulB_trim (U := U) (fun v hv => h1 v (List.mem_cons_of_mem _ hv)) hp.2
    rw [List.map_cons, List.map_cons, List.map_cons]
    by_cases hf : f u = 1
    · have hall : ∀ z ∈ U.map f, z = 1 := fun z hz => by
        obtain ⟨v, hv, rfl⟩ := List.mem_map.1 hz
        exact (hp.1 v hv).1 hf
      have hm : (U.map fun u => f u * g u) = U.map g := List.map_congr_left fun v hv => by rw [(hp.1 v hv).1 hf, Int.one_mul]
      rw [hf, trim_one, nil_mulB, hm, Int.one_mul]
    · rw [trim_cons hf]
      by_cases hg : g u = 1
      · have hm : (U.map fun u => f u * g u) = U.map f := List.map_congr_left fun v hv => by rw [(hp.1 v hv).2 hg, Int.mul_one]
        rw [hg, trim_one, mulB_nil, hm, Int.mul_one, trim_cons hf]
      · rw [trim_cons hg, trim_cons (fun h => hf (mul_one_iff a1 a2 h).1)]
        show f u * g u :: mulB (trim (U.map f)) (trim (U.map g)) = _
        rw [ih]
end
/-- the product over some primes -/
def gS (S : List Nat) (U : Vec) : Nat := prodP (S.map fun q => (q, U q))
theorem gS_cons (p : Nat) (S : List Nat) (U : Vec) : gS (p :: S) U = p ^ U p * gS S U := rfl
theorem gS_pos {S : List Nat} (h : ∀ q ∈ S, Prm q) (U : Vec) : 1 ≤ gS S U := prodP_pos fun x hx => by
  obtain ⟨p, hp, rfl⟩ := List.mem_map.1 hx
  exact h p hp
theorem gS_one : ∀ {S : List Nat} {A B : Vec}, (∀ q ∈ S, Prm q) → (∀ q, B q ≤ A q) → gS S A = 1 → gS S B = 1
  | [], _, _, _, _, _ => rfl
  | p :: S, A, B, h, hle, hA => by
    rw [gS_cons] at hA ⊢
    have hp := (h p (List.mem_cons_self ..)).1
    have h1 : p ^ A p = 1 := Nat.eq_one_of_mul_eq_one_right hA
    have h2 : gS S A = 1 := Nat.eq_one_of_mul_eq_one_left hA
    have h3 : A p = 0 := by
      rcases Nat.eq_zero_or_pos (A p) with h4 | h4
      · exact h4
      · have := Nat.pow_le_pow_right (show 0 < p by omega) h4
        rw [Nat.pow_one] at this
        omega
    have h4 := hle p
    rw [gS_one (fun q hq => h q (List.mem_cons_of_mem _ hq)) hle h2, show B p = 0 by omega, Nat.pow_zero]
theorem pow_one_iff {p x : Nat} (hp : 2 ≤ p) : ((p ^ x : Nat) : Int) = 1 ↔ x = 0 := by
  constructor
  · intro h
    rcases Nat.eq_zero_or_pos x with h4 | h4
    · exact h4
    · have := Nat.pow_le_pow_right (show 0 < p by omega) h4
      rw [Nat.pow_one] at this
      omega
  · rintro rfl
    simp
def xsOf (p : Nat) (Us : List Vec) : List Nat := (Us.map fun U => U p).takeWhile fun x => decide (0 < x)
theorem xsOf_mem {p x : Nat} {Us : List Vec} (h : x ∈ xsOf p Us) : ∃ U ∈ Us, U p = x := List.mem_map.1 ((List.takeWhile_sublist _).subset h)
theorem block_eq {p : Nat} : ∀ {Us : List Vec}, (Us.Pairwise fun A B => ∀ q, B q ≤ A q) → (Us.flatMap fun V => oneP p V) = (xsOf p Us).map fun (x : Nat) => ((p : Int), (x : Int))
  | [], _ => rfl
  | U :: Us, h => by
    rw [List.pairwise_cons] at h
    have ih := block_eq (p := p) h.2
    rw [List.flatMap_cons, ih]
    unfold xsOf oneP
    rw [List.map_cons, List.takeWhile_cons]
    by_cases h0 : 0 < U p
    · rw [if_pos h0, if_pos (by simpa using h0)]
      rfl
    · rw [if_neg h0, if_neg (by simpa using h0)]
      have : (Us.map fun U => U p).takeWhile (fun x => decide (0 < x)) = [] := by
        cases Us with
        | nil => rfl
        | cons W Us =>
          have := h.1 W (List.mem_cons_self ..) p
          rw [List.map_cons, List.takeWhile_cons, if_neg (by simp; omega)]
      rw [this]
      rfl
theorem trim_pow {p : Nat} (hp : 2 ≤ p) : ∀ (Us : List Vec), trim (Us.map fun U => ((p ^ U p : Nat) : Int)) = (xsOf p Us).map fun x => ((p ^ x : Nat) : Int)
  | [] => rfl
  | U :: Us => by
    have ih := trim_pow hp Us
    unfold xsOf at ih ⊢
    rw [List.map_cons, List.map_cons, List.takeWhile_cons]
    by_cases h0 : U p = 0
    · rw [if_neg (by simp; omega), h0]
      rfl
    · rw [if_pos (by simp; omega), trim_cons (fun h => h0 ((pow_one_iff hp).1 h)), ih]
      rfl
theorem join_prime {p : Nat} {S : List Nat} (hp : Prm p) (hS : ∀ q ∈ S, Prm q) {Us : List Vec} (hU : Us.Pairwise fun A B => ∀ q, B q ≤ A q) (hb : ∀ U ∈ Us, gS (p :: S) U ≤ 1000000000) (a : Nat) (pv : Option Int) (r : List Pr) (hpv : ∀ q, pv = some q → (p : Int) < q) (h0 : pv = none → a = 0) :
    ∃ pv' a', joinG pv (trim (Us.map fun U => ((gS S U : Nat) : Int)), a) ((Us.flatMap fun V => oneP p V) ++ r) = joinG pv' (trim (Us.map fun U => ((gS (p :: S) U : Nat) : Int)), a') r ∧ (∀ q, pv' = some q → (p : Int) ≤ q) ∧ (pv' = none → a' = 0) := by
  have hm : mulB (trim (Us.map fun U => ((gS S U : Nat) : Int))) ((xsOf p Us).map fun x => ((p ^ x : Nat) : Int)) = trim (Us.map fun U => ((gS (p :: S) U : Nat) : Int)) := by
    rw [← trim_pow hp.1, mulB_trim (fun U _ => ⟨by have := gS_pos hS U; omega, Int.ofNat_le.2 (Nat.pow_pos (by have := hp.1; omega))⟩) (hU.imp fun {A B} h => ⟨fun h1 => ?_, fun h1 => ?_⟩)]
    · congr 1
      refine List.map_congr_left fun U _ => ?_
      rw [gS_cons, Nat.mul_comm, Int.natCast_mul]
    · have h2 : gS S A = 1 := by omega
      rw [gS_one hS h h2]
      rfl
    · have h2 := (pow_one_iff hp.1).1 h1
      exact (pow_one_iff hp.1).2 (by have := h p; omega)
  have hbd : ∀ z ∈ trim (Us.map fun U => ((gS (p :: S) U : Nat) : Int)), 1 ≤ z ∧ z ≤ 1000000000 := fun z hz => by
    obtain ⟨U, hUm, rfl⟩ := List.mem_map.1 (trim_mem hz)
    have h1 := hb U hUm
    have h2 := gS_pos (S := p :: S) (fun q hq => by
      rcases List.mem_cons.1 hq with rfl | hq
      · exact hp
      · exact hS q hq) U
    omega
  rw [block_eq hU, ← hm]
  refine joinG_step (xsOf p Us) _ a pv r hpv h0 (fun z hz => ?_) (fun x hx => ?_) (by rw [hm]; exact hbd)
  · obtain ⟨U, -, rfl⟩ := List.mem_map.1 (trim_mem hz)
    have := gS_pos hS U
    omega
  · obtain ⟨U, hUm, rfl⟩ := xsOf_mem hx
    have h1 := hb U hUm
    rw [gS_cons] at h1
    exact Nat.le_trans (Nat.le_mul_of_pos_right _ (gS_pos hS U)) h1
theorem prm_at {p : Nat} (h : p ∈ P5) : Prm p := P5_prm p h
theorem join_srt {Vs : List Vec} (h : Chain Vs) : ∃ a, joinTo (srt Vs).reverse (srt Vs).reverse.length = some ((Vs.map fun V => ((val V : Nat) : Int)).reverse, a) := by
  obtain ⟨Us, hUs⟩ : ∃ Us, Us = Vs.reverse := ⟨_, rfl⟩
  have hU : Us.Pairwise fun A B => ∀ q, B q ≤ A q := by rw [hUs, List.pairwise_reverse]; exact h.le
  have hmem : ∀ U ∈ Us, 1 < val U ∧ val U ≤ 1000000000 := fun U hu => by
    rw [hUs, List.mem_reverse] at hu
    exact ⟨h.one U hu, h.bd U hu⟩
  have hL : (srt Vs).reverse = (Us.flatMap fun V => oneP 11 V) ++ ((Us.flatMap fun V => oneP 7 V) ++ ((Us.flatMap fun V => oneP 5 V) ++ ((Us.flatMap fun V => oneP 3 V) ++ ((Us.flatMap fun V => oneP 2 V) ++ [])))) := by
    rw [srt_rev, hUs]
    rfl
  have hG := joinTo_G (srt Vs).reverse (srt Vs).reverse.length 0 ([], 0) (by omega) rfl
  rw [hG, List.drop_zero, hL]
  have hz : ([] : List Int) = trim (Us.map fun U => ((gS [] U : Nat) : Int)) := (trim_ones fun z hz => by
    obtain ⟨U, -, rfl⟩ := List.mem_map.1 hz
    rfl).symm
  have hle : ∀ (p : Nat) (S : List Nat) (U : Vec), 2 ≤ p → gS S U ≤ gS (p :: S) U := fun p S U hp => by
    have h0 : 0 < p := by omega
    exact Nat.le_mul_of_pos_left _ (Nat.pow_pos h0)
  have hv : ∀ U : Vec, gS [2, 3, 5, 7, 11] U = val U := fun U => rfl
  have b5 : ∀ U ∈ Us, gS [2, 3, 5, 7, 11] U ≤ 1000000000 := fun U hu => by rw [hv]; exact (hmem U hu).2
  have b4 : ∀ U ∈ Us, gS [3, 5, 7, 11] U ≤ 1000000000 := fun U hu => Nat.le_trans (hle 2 _ U (by decide)) (b5 U hu)
  have b3 : ∀ U ∈ Us, gS [5, 7, 11] U ≤ 1000000000 := fun U hu => Nat.le_trans (hle 3 _ U (by decide)) (b4 U hu)
  have b2 : ∀ U ∈ Us, gS [7, 11] U ≤ 1000000000 := fun U hu => Nat.le_trans (hle 5 _ U (by decide)) (b3 U hu)
  have b1 : ∀ U ∈ Us, gS [11] U ≤ 1000000000 := fun U hu => Nat.le_trans (hle 7 _ U (by decide)) (b2 U hu)
  have q11 := prm_at (p := 11) (by decide)
  have q7 := prm_at (p := 7) (by decide)
  have q5 := prm_at (p := 5) (by decide)
  have q3 := prm_at (p := 3) (by decide)
  have q2 := prm_at (p := 2) (by decide)
  have hP : ∀ S : List Nat, (∀ q ∈ S, q ∈ P5) → ∀ q ∈ S, Prm q := fun S h q hq => P5_prm q (h q hq)
  obtain ⟨v1, a1, e1, f1, g1⟩ := join_prime (p := 11) (S := []) q11 (hP _ (by decide)) hU b1 0 none ((Us.flatMap fun V => oneP 7 V) ++ ((Us.flatMap fun V => oneP 5 V) ++ ((Us.flatMap fun V => oneP 3 V) ++ ((Us.flatMap fun V => oneP 2 V) ++ [])))) (fun q hq => by cases hq) (fun _ => rfl)
  obtain ⟨v2, a2, e2, f2, g2⟩ := join_prime (p := 7) (S := [11]) q7 (hP _ (by decide)) hU b2 a1 v1 ((Us.flatMap fun V => oneP 5 V) ++ ((Us.flatMap fun V => oneP 3 V) ++ ((Us.flatMap fun V => oneP 2 V) ++ []))) (fun q hq => by have := f1 q hq; omega) g1
  obtain ⟨v3, a3, e3, f3, g3⟩ := join_prime (p := 5) (S := [7, 11]) q5 (hP _ (by decide)) hU b3 a2 v2 ((Us.flatMap fun V => oneP 3 V) ++ ((Us.flatMap fun V => oneP 2 V) ++ [])) (fun q hq => by have := f2 q hq; omega) g2
  obtain ⟨v4, a4, e4, f4, g4⟩ := join_prime (p := 3) (S := [5, 7, 11]) q3 (hP _ (by decide)) hU b4 a3 v3 ((Us.flatMap fun V => oneP 2 V) ++ []) (fun q hq => by have := f3 q hq; omega) g3
  obtain ⟨v5, a5, e5, -, -⟩ := join_prime (p := 2) (S := [3, 5, 7, 11]) q2 (hP _ (by decide)) hU b5 a4 v4 [] (fun q hq => by have := f4 q hq; omega) g4
  refine ⟨a5, ?_⟩
  show joinG none ([], 0) _ = _
  rw [hz, e1, e2, e3, e4, e5]
  show some (trim (Us.map fun U => ((val U : Nat) : Int)), a5) = _
  rw [trim_all (fun z hz => by
    obtain ⟨U, hu, rfl⟩ := List.mem_map.1 hz
    have := (hmem U hu).1
    omega), hUs, List.map_reverse]
/-- Join undoes Powers -/
theorem join_powers {Vs : List Vec} (h : Chain Vs) (hl : Vs.length ≤ 100) : powersE (Vs.map fun V => ((val V : Nat) : Int)) = (srt Vs, 0) ∧ ∀ qs : List Pr, qs.Perm (srt Vs) → joinE qs = (Vs.map fun V => ((val V : Nat) : Int), 0) := by
  refine ⟨?_, fun qs hq => ?_⟩
  · unfold powersE
    rw [if_neg (by simp; omega), if_neg, sort_facs h.le]
    rw [Bool.not_eq_true, List.any_eq_false]
    intro x hx
    obtain ⟨V, hV, rfl⟩ := List.mem_map.1 hx
    have h1 := h.one V hV
    have h2 := h.bd V hV
    unfold badT
    simp
    omega
  · have hlen := hq.length_eq
    have hsl := srt_len Vs
    have hsort : sortD qs = (srt Vs).reverse := by
      unfold sortD
      rw [sortP_congr hq, ← sortP_unique (List.Perm.refl _) (srt_sorted h.le)]
    obtain ⟨a, ha⟩ := join_srt h
    rw [List.length_reverse] at ha
    unfold joinE
    rw [if_neg (by omega), if_neg, hsort, hlen, joinOf_some ha, List.reverse_reverse]
    rw [Bool.not_eq_true, hq.any_eq, srt_good]
end Go.Proofs
namespace Go.Proofs
open Go.RowKit Go.Shelf Go.Proofs.Sm Go.Lib Go.Sort
shelf_lay_g SlLaysE0.n35 Slgn 35 at Try 52 as Try.reverseP
shelf_lay Lays.n112 Nm 112 at Try as Try.reverseI
theorem run_copyP {w : World} {v : Value} {ps : List Pr} (h : PrsAt w v ps) (hl : ps.length ≤ 1000000) :
    ∃ A c w', (Builtin.append_ #[53, 53] 53 #[.slice (some ⟨w.heap.size, 0, none⟩) 0 0, v]).run Try.prog (w.alloc (.cells #[] 56)) = .ok (.slice A ps.length c) w' ∧ RowKit.Below w.heap.size w w' ∧ OwnP w.heap.size w' (.slice A ps.length c) ps := by
  have hal : RowKit.Below w.heap.size w (w.alloc (.cells #[] 56)) := (RowKit.Below.refl _ _).alloc (Nat.le_refl _) _
  have hown : OwnP w.heap.size (w.alloc (.cells #[] 56)) (.slice (some ⟨w.heap.size, 0, none⟩) 0 0) [] := ⟨rfl, .inr ⟨w.heap.size, 0, #[], rfl, Nat.le_refl _, heap_alloc_new w _, Nat.le_refl _, by simp, rfl, rfl⟩⟩
  obtain ⟨A, c, w', h1, h2, h3, -⟩ := run_append_prs (w := w.alloc (.cells #[] 56)) v hown (h.below hal) (by simp) hl hal.size
  exact ⟨A, c, w', h1, hal.grown h3 hal.size (fun r hr => by cases hr; exact Nat.le_refl _), h2⟩
theorem eqnilP_none (w : World) (n c : Nat) : (binOp .eql 53 (.slice none n c) (.slice none 0 0)).run Try.prog w = .ok (.bool true) w := by kernel_rfl
theorem eqnilP_some (w : World) (a : Addr) (n c : Nat) : (binOp .eql 53 (.slice (some a) n c) (.slice none 0 0)).run Try.prog w = .ok (.bool false) w := by kernel_rfl
def CopyPost (ps : List Pr) (w : World) (e : Ending) (w' : World) : Prop := ∃ A c, e = .returned (.slice A ps.length c) ∧ OwnP w.heap.size w' (.slice A ps.length c) ps ∧ RowKit.Below w.heap.size w w'
set_option maxRecDepth 100000 in
theorem clone51_any (w : World) (v : Value) (ps : List Pr) (h : PrsAt w v ps) (hl : ps.length ≤ 1000000) : Calls Try.prog 51 #[v] w (CopyPost ps w) := by
  obtain ⟨A0, c0, w', hr, hb, ho⟩ := run_copyP h hl
  have HR := Lib.hid hr
  have HB := Lib.hid hb
  have HO := Lib.hid ho
  obtain ⟨A, cap, rfl, hcap, hmax, hc⟩ := h
  cases A with
  | none =>
    have h0 : ps = [] := by
      rcases Nat.eq_zero_or_pos ps.length with h0 | h0
      · exact List.length_eq_zero_iff.1 h0
      · obtain ⟨b, off, hx, -⟩ := hc h0
        cases hx
    clear hr hb ho hc HR HB HO
    subst h0
    have hq := eqnilP_none w
    go_enter Try.func51, Try.ntmps51
    go_wp2_with fail
    go_ret
    exact ⟨none, 0, rfl, OwnP.nil _ _, RowKit.Below.refl _ _⟩
  | some a =>
    clear hr hb ho hc
    have hq := eqnilP_some w
    go_enter Try.func51, Try.ntmps51
    go_wp2_with ((with_reducible refine wpList_sel 7 ?_); refine wpList_val rfl (r_app (.tmp 5) (.tmp 6) 53 rfl rfl rfl HR.out) ?_)
    go_ret
    exact ⟨_, _, rfl, HO.out, HB.out⟩
/-- other pairs are written into the row -/
theorem ownP_put {w : World} {base g cap : Nat} {ps : List Pr} (h : OwnP base w (.slice (some ⟨g, 0, none⟩) ps.length cap) ps) (qs : List Pr) (hl : qs.length = ps.length) (n : Nat) :
    HoldsK pcell 2 w g 0 ps.toArray ∧ OwnP base (putRowK pcell 2 (Sort.ahead w n) g 0 qs.toArray) (.slice (some ⟨g, 0, none⟩) ps.length cap) qs ∧ RowKit.Below base w (putRowK pcell 2 (Sort.ahead w n) g 0 qs.toArray) := by
  obtain ⟨hlen, ho⟩ := h
  rcases ho with ⟨e, -⟩ | ⟨g', cap', cur, e, hb, hC, h1, hm, hs, ht⟩
  · cases e
  · injection e with e1 e2 e3
    injection e1 with e1
    injection e1 with e1
    subst e1 e3
    have hg : g < w.heap.size := (Array.getElem?_eq_some_iff.1 hC).1
    have hpl : (pcells qs).length = ps.length * 2 := by rw [pcells_length, hl]
    refine ⟨?_, ?_, ?_⟩
    · unfold HoldsK
      rw [flatK_get]
      intro j hj
      have hj' : j < (pcells ps).length := by simpa using hj
      refine ⟨?_, by simp [World.frozen?, hC]⟩
      have h5 : (cur.toList.take (ps.length * 2))[j]? = (pcells ps)[j]? := by rw [ht]
      rw [List.getElem?_take, if_pos (by rw [← pcells_length]; exact hj')] at h5
      rw [Nat.zero_add, cell_of_row _ _ _ _ _ _ hC]
      have : (pcells ps).toArray[j]! = (pcells ps)[j] := by simp [hj']
      rw [this, id, ← List.getElem?_eq_getElem hj', ← h5]
      simp
    · have hh := heap_sortedW (n := n) (os := #[]) (pcells qs).toArray hC
      rw [grow_empty] at hh
      unfold putRowK
      rw [flatK_get]
      refine ⟨by rw [pcells_length], .inr ⟨g, cap, _, by rw [hl], hb, hh, by rw [hl]; exact h1, hm, by simp [putCells, hs], ?_⟩⟩
      rw [hl, ← hpl]
      exact take_putCellsW cur _ (by rw [hpl, hs]; omega)
    · have hh := grownBy_sortedW (w := w) (g := g) (n := n) (os := #[]) (pcells qs).toArray
      rw [grow_empty] at hh
      unfold putRowK
      rw [flatK_get]
      exact (RowKit.Below.refl base w).grown hh (Nat.le_trans hb (Nat.le_of_lt hg)) fun r hr => by cases hr; exact hb
theorem reverse52_any (base : Nat) (w : World) (v : Value) (ps : List Pr) (h : OwnP base w v ps) (hl : ps.length ≤ 1000000) : Calls Try.prog 52 #[v] w fun e w' => e = .returned (.tuple #[]) ∧ OwnP base w' v ps.reverse ∧ RowKit.Below base w w' := by
  rcases h.2 with ⟨rfl, h0⟩ | ⟨g, cap, cur, rfl, -⟩
  · obtain rfl : ps = [] := List.length_eq_zero_iff.1 h0
    have hc : Calls Try.prog 52 #[.slice none 0 0] w _ := AnyQ.slices_Reverse_empty Try.reverseP none 0 w
    exact hc.mono fun e w' ⟨h1, h2⟩ => ⟨h1, OwnP.nil _ _, by rw [h2]; exact RowKit.Below.refl _ _⟩
  · have hp := fun n => ownP_put h ps.reverse (by simp) n
    have hc : Calls Try.prog 52 #[.slice (some ⟨g, 0, none⟩) ps.length cap] w _ := AnyQ.slices_Reverse Try.reverseP 2 isAgg56 sizeOf56 pcell (fun _ => rfl) (fun x v hv => by simp [pcell] at hv; rcases hv with rfl | rfl <;> rfl) g 0 cap ps.toArray w (hp 0).1 (by simp; omega)
    refine hc.mono ?_
    rintro e w' ⟨h1, n, rfl⟩
    have e2 : ps.toArray.reverse = ps.reverse.toArray := by simp
    rw [e2]
    exact ⟨h1, (hp n).2.1, (hp n).2.2⟩
theorem reverse54_any (base : Nat) (w : World) (v : Value) (xs : List Int) (h : OwnI base w v xs) (hl : xs.length ≤ 1000000) : Calls Try.prog 54 #[v] w fun e w' => e = .returned (.tuple #[]) ∧ OwnI base w' v xs.reverse ∧ RowKit.Below base w w' := by
  rcases h.2 with ⟨rfl, h0⟩ | ⟨g, cap, cur, rfl, hb, hC, h1, hm, hs, ht⟩
  · obtain rfl : xs = [] := List.length_eq_zero_iff.1 h0
    have hc : Calls Try.prog 54 #[.slice none 0 0] w _ := Any.slices_Reverse_int_empty Try.reverseI none 0 w
    exact hc.mono fun e w' ⟨h1, h2⟩ => ⟨h1, World.ownsRow_nil _ _ _ _, by rw [h2]; exact RowKit.Below.refl _ _⟩
  · have hg : g < w.heap.size := (Array.getElem?_eq_some_iff.1 hC).1
    have hH : Holds (Value.int .i64) w g 0 xs.toArray := holds_of_block_i hC (by rw [Nat.mul_one] at ht; exact ht)
    have hc : Calls Try.prog 54 #[.slice (some ⟨g, 0, none⟩) xs.length cap] w _ := Any.slices_Reverse_int Try.reverseI g 0 cap xs w hH (by omega)
    refine hc.mono ?_
    rintro e w' ⟨h2, n, rfl⟩
    have ho := ownsRow_sorted_i (n := n) (os := #[]) (ss := xs) (ts := xs.reverse) (by simp) hb hC h1 hm hs
    have hgr := grownBy_sorted_i (w := w) (g := g) (n := n) (os := #[]) xs.reverse.toArray
    rw [grow_empty] at ho hgr
    refine ⟨h2, ?_, (RowKit.Below.refl base w).grown hgr (Nat.le_trans hb (Nat.le_of_lt hg)) fun r hr => by cases hr; exact hb⟩
    unfold OwnI
    rw [List.length_reverse]
    exact ho
end Go.Proofs
