/- The laws' presentations: they are valid; what Enumerate answers for them; The plain law of CosetHolds; The walk of CosetHolds; Arguments opened: lists of numbers, tables, presentations. -/
import Derived.Test.YtcfighimnkfmeaaChCS16
import Derived.Test.YtcfighimnkfmeaaChCS18
import Derived.Test.YtcfighimnkfmeaaChCS1
import Derived.ProofKit
import Derived.Deep.Slices
import Derived.Deep.Strs
namespace Go.Proofs
open Go.RowKit Go.Shelf Go.Proofs.Ct Go.Maps
theorem letBad_ok {g : Nat} {w : W} (h : LOk g w) : w.any (letBad g) = false := by
  rw [List.any_eq_false]
  intro x hx
  have := h x hx
  unfold letBad
  simp
  omega
theorem sumTo_short {l : List W} {m : Nat} (h : ∀ j, (l.getD j []).length ≤ m) : ∀ k, sumTo l k ≤ k * m
  | 0 => by simp [sumTo, foldTo]
  | k + 1 => by
    have := sumTo_short h k
    have := h k
    show sumTo l k + (l.getD k []).length ≤ (k + 1) * m
    rw [Nat.add_mul]
    omega
/-- words in g generators, few and short -/
structure Wds (g : Nat) (l : List W) (n m : Nat) : Prop where
  len : l.length ≤ n
  short : ∀ j, (l.getD j []).length ≤ m
  ok : ∀ j, j < l.length → LOk g (l.getD j [])
theorem Wds.pres {g n m : Nat} {l : List W} (h : Wds g l n m) (hg : 1 ≤ g ∧ g ≤ 16) (hn : n ≤ 100) (hnm : n * m ≤ 4000) : presE g l = 0 := by
  refine presE_none hg (Nat.le_trans h.len hn) fun j hj => ?_
  unfold presBad
  have h1 := sumTo_short h.short (j + 1)
  have h2 : (j + 1) * m ≤ n * m := Nat.mul_le_mul_right _ (by have := h.len; omega)
  rw [if_neg (by omega), if_neg (by rw [letBad_ok (h.ok j hj)]; simp)]
theorem Wds.good {g n m : Nat} {l : List W} (h : Wds g l n m) (hn : n ≤ 100) (hnm : n * m ≤ 4000) {lim : Nat} (hl : 1 ≤ lim ∧ lim ≤ 20000) : badArgs g l (lim : Int) = false := by
  have h1 := sumTo_short h.short l.length
  have h2 : l.length * m ≤ n * m := Nat.mul_le_mul_right _ h.len
  have h3 := h.len
  have h4 : (l.any fun w => w.any (letBad g)) = false := by
    rw [List.any_eq_false]
    intro w hw
    obtain ⟨j, hj, rfl⟩ := List.mem_iff_getElem.1 hw
    have := h.ok j hj
    rw [List.getD_eq_getElem?_getD, List.getElem?_eq_getElem hj] at this
    have h5 := letBad_ok this
    simp only [Option.getD_some] at h5
    rw [h5]; simp
  unfold badArgs
  rw [h4]
  simp only [Bool.or_false, Bool.or_eq_false_iff, decide_eq_false_iff_not]
  omega
theorem mem_wordsTo {g most : Nat} (hg : 1 ≤ g) : ∀ (f : Nat) (l : List Int), ∀ w ∈ wordsTo g most f l, w.length ≤ most ∧ LOk g w
  | 0, _, w, h => by simp [wordsTo] at h
  | _ + 1, [], w, h => by simp [wordsTo] at h
  | f + 1, x :: l, w, h => by
    rw [wordsTo] at h
    rcases List.mem_cons.1 h with rfl | h
    · refine ⟨?_, fun y hy => ?_⟩
      · rw [length_wordOf, List.length_take]
        have := Int.emod_lt_of_pos x (show (0 : Int) < ((most + 1 : Nat) : Int) by omega)
        have := Int.emod_nonneg x (show ((most + 1 : Nat) : Int) ≠ 0 by omega)
        omega
      · unfold wordOf at hy
        obtain ⟨z, -, rfl⟩ := List.mem_map.1 hy
        have h1 := Int.emod_lt_of_pos z (show (0 : Int) < ((2 * g : Nat) : Int) by omega)
        have h2 := Int.emod_nonneg z (show ((2 * g : Nat) : Int) ≠ 0 by omega)
        exact letter_range (by omega)
    · exact mem_wordsTo hg f _ w h
theorem wds_of_mem {g n m : Nat} {l : List W} (hn : l.length ≤ n) (h : ∀ w ∈ l, w.length ≤ m ∧ LOk g w) : Wds g l n m := by
  refine ⟨hn, fun j => ?_, fun j hj => ?_⟩
  · rw [List.getD_eq_getElem?_getD]
    rcases Nat.lt_or_ge j l.length with hj | hj
    · rw [List.getElem?_eq_getElem hj]; exact (h _ (List.getElem_mem hj)).1
    · rw [List.getElem?_eq_none hj]; exact Nat.zero_le _
  · rw [List.getD_eq_getElem?_getD, List.getElem?_eq_getElem hj]
    exact (h _ (List.getElem_mem hj)).2
theorem wds_law {g : Nat} (hg : 1 ≤ g) (m : Nat) (l : List Int) : Wds g (lawWords g m l) m 12 := wds_of_mem (by unfold lawWords; rw [List.length_take]; omega) fun w hw => mem_wordsTo hg _ _ w (List.mem_of_mem_take hw)
/-- the known presentations -/
def knownB (i : Nat) : Bool := decide (1 ≤ (knownT i).1 ∧ (knownT i).1 ≤ 3) && decide ((knownT i).2.1.length ≤ 6) && ((knownT i).2.1.all fun w => decide (w.length ≤ 60) && w.all fun x => decide (-(knownT i).1 ≤ x) && decide (x ≤ (knownT i).1) && decide (x ≠ 0))
theorem known_wds {i : Nat} (h : knownB i = true) : ∃ g : Nat, (knownT i).1 = (g : Int) ∧ 1 ≤ g ∧ g ≤ 3 ∧ Wds g (knownT i).2.1 6 60 := by
  unfold knownB at h
  simp only [Bool.and_eq_true, decide_eq_true_eq] at h
  obtain ⟨⟨⟨h1, h2⟩, h3⟩, h4⟩ := h
  refine ⟨(knownT i).1.toNat, by omega, by omega, by omega, wds_of_mem h3 fun w hw => ?_⟩
  have h5 := List.all_eq_true.1 h4 w hw
  simp only [Bool.and_eq_true, decide_eq_true_eq] at h5
  refine ⟨h5.1, fun x hx => ?_⟩
  have h6 := List.all_eq_true.1 h5.2 x hx
  simp only [Bool.and_eq_true, decide_eq_true_eq] at h6
  omega
theorem known_all : ∀ i, i < 14 → knownB i = true := by decide +kernel
theorem mod14 (x : Int) : (x % 14).toNat < 14 := by
  have h1 := Int.emod_nonneg x (show (14 : Int) ≠ 0 by omega)
  have h2 := Int.emod_lt_of_pos x (show (0 : Int) < 14 by omega)
  omega
theorem given_wds (m : Nat) (hm : m ≤ 6) (which : Int) (l : List Int) : ∃ g : Nat, (givenP m which l).1 = (g : Int) ∧ 1 ≤ g ∧ g ≤ 3 ∧ Wds g (givenP m which l).2 6 60 := by
  unfold givenP
  split
  · exact known_wds (known_all _ (mod14 _))
  · have h1 := Int.emod_nonneg (which.tdiv 2) (show (3 : Int) ≠ 0 by omega)
    have h2 := Int.emod_lt_of_pos (which.tdiv 2) (show (0 : Int) < 3 by omega)
    refine ⟨(1 + which.tdiv 2 % 3).toNat, by show (1 + which.tdiv 2 % 3) = _; omega, by omega, by omega, ?_⟩
    have := wds_law (g := (1 + which.tdiv 2 % 3).toNat) (by omega) m l
    exact ⟨Nat.le_trans this.len hm, fun j => Nat.le_trans (this.short j) (by omega), this.ok⟩
theorem known_reg : ∀ i, i < 14 → ∃ (g n : Nat), (knownT i).1 = (g : Int) ∧ (knownT i).2.2 = (n : Int) ∧ Reg g (knownT i).2.1 n := by
  have key : ∀ (i g n : Nat) (rs : List (List Nat)) (len log T L P : Nat), knownB i = true → (knownT i).1 = (g : Int) → (knownT i).2.2 = (n : Int) → 2 * g ≤ 8 → rs = (knownT i).2.1.map (fun w => w.map col) → certC g n rs len log T L P = true → ∃ (g n : Nat), (knownT i).1 = (g : Int) ∧ (knownT i).2.2 = (n : Int) ∧ Reg g (knownT i).2.1 n := fun i g n rs len log T L P hb hg hn h8 hrs hc => by
    obtain ⟨g', h1, -, -, h4⟩ := known_wds hb
    have : g' = g := by omega
    subst this
    exact ⟨g', n, hg, hn, reg_of_cert h8 hrs h4.ok hc⟩
  intro i hi
  have hb := known_all i hi
  match i, hi with
  | 0, _ => exact key 0 _ _ _ _ _ _ _ _ hb rfl rfl (by decide) (by decide +kernel) cert0
  | 1, _ => exact key 1 _ _ _ _ _ _ _ _ hb rfl rfl (by decide) (by decide +kernel) cert1
  | 2, _ => exact key 2 _ _ _ _ _ _ _ _ hb rfl rfl (by decide) (by decide +kernel) cert2
  | 3, _ => exact key 3 _ _ _ _ _ _ _ _ hb rfl rfl (by decide) (by decide +kernel) cert3
  | 4, _ => exact key 4 _ _ _ _ _ _ _ _ hb rfl rfl (by decide) (by decide +kernel) cert4
  | 5, _ => exact key 5 _ _ _ _ _ _ _ _ hb rfl rfl (by decide) (by decide +kernel) cert5
  | 6, _ => exact key 6 _ _ _ _ _ _ _ _ hb rfl rfl (by decide) (by decide +kernel) cert6
  | 7, _ => exact key 7 _ _ _ _ _ _ _ _ hb rfl rfl (by decide) (by decide +kernel) cert7
  | 8, _ => exact key 8 _ _ _ _ _ _ _ _ hb rfl rfl (by decide) (by decide +kernel) cert8
  | 9, _ => exact key 9 _ _ _ _ _ _ _ _ hb rfl rfl (by decide) (by decide +kernel) cert9
  | 10, _ => exact key 10 _ _ _ _ _ _ _ _ hb rfl rfl (by decide) (by decide +kernel) cert10
  | 11, _ => exact key 11 _ _ _ _ _ _ _ _ hb rfl rfl (by decide) (by decide +kernel) cert11
  | 12, _ => exact key 12 _ _ _ _ _ _ _ _ hb rfl rfl (by decide) (by decide +kernel) cert12
  | 13, _ => exact key 13 _ _ _ _ _ _ _ _ hb rfl rfl (by decide) (by decide +kernel) cert13
  | n + 14, h => omega
section
variable {g n m n' m' lim : Nat} {rels sub : List W}
/-- what Enumerate answers: no room, or a coset table that any greater limit gives as well -/
structure EnumT (g : Nat) (rels sub : List W) (lim : Nat) (t : Tb) (d k : Nat) : Prop where
  coset : Coset g rels sub t
  n1 : 1 ≤ t.length
  live : t.length ≤ k
  most : k ≤ d
  room : d ≤ lim
  is : ∀ lim', d ≤ lim' → lim' ≤ 20000 → enumE g rels sub (lim' : Int) = (t, ((d : Int), (k : Int)), 0)
  less : ∀ lim', 1 ≤ lim' → lim' < d → enumE g rels sub (lim' : Int) = ([], (0, 0), 12)
theorem enum_cases (hg : 1 ≤ g ∧ g ≤ 16) (hp : presE g rels = 0) (hr : ∀ j, j < rels.length → LOk g (rels.getD j [])) (hs : ∀ j, j < sub.length → LOk g (sub.getD j [])) (hb : ∀ lim' : Nat, 1 ≤ lim' → lim' ≤ 20000 → badArgs g sub (lim' : Int) = false) (hl : 1 ≤ lim ∧ lim ≤ 20000) :
    enumE g rels sub (lim : Int) = ([], (0, 0), 12) ∨ ∃ t d k, EnumT g rels sub lim t d k := by
  cases hx : runS (2 * g) lim rels sub with
  | none => exact .inl (enumE_full hp (hb lim hl.1 hl.2) hx)
  | some s =>
    right
    obtain ⟨hG, -⟩ := run_good hl.1 hr hs hx
    obtain ⟨h1, h2, h3⟩ := coset_of_run hg.1 hg.2 hl.2 hl.1 hr hs hx
    obtain ⟨m1, m2⟩ := run_mi hl.1 hr hs hx
    have hlv := liv_live hG.rest
    have hm0 := hG.m0
    refine ⟨stdT (tabS s) 0, s.t.length, s.most.toNat, h1, h1.full.good.n1, by rw [h3]; omega, by omega, hG.n2, fun lim' ha hb' => ?_, fun lim' ha hb' => ?_⟩
    · have hn1 := hG.n1
      have h4 := run_mono hl.1 hr hs hx ha
      rw [enumE_some hp (hb lim' (by omega) hb') h4, h2, show ((s.most.toNat : Nat) : Int) = s.most by omega]
    · have hn2 := hG.n2
      exact enumE_full hp (hb lim' ha (by omega)) (run_less hl.1 hr hs hx ha hb')
theorem Ct.Coset.holdsE {t : Tb} (h : Coset g rels sub t) (hp : presE g rels = 0) (hs : ∀ j, j < sub.length → LOk g (sub.getD j [])) : Go.Proofs.holdsE g rels sub t = (true, 0) := by
  have h4 : (sub.any fun w => w.any (letBad g)) = false := by
    rw [List.any_eq_false]
    intro w hw
    obtain ⟨j, hj, rfl⟩ := List.mem_iff_getElem.1 hw
    have := hs j hj
    rw [List.getD_eq_getElem?_getD, List.getElem?_eq_getElem hj] at this
    have h5 := letBad_ok this
    simp only [Option.getD_some] at h5
    rw [h5]; simp
  unfold Go.Proofs.holdsE
  rw [if_neg (by rw [hp]; simp), Int.toNat_natCast, if_neg (by rw [h4]; simp), check_of_good h.full.good, if_neg (by simp), h.holds]
theorem std_self {t : Tb} (h : Full g t) (hs : std t 0 = some t) : stdE g t 0 = (t, 0) := by
  have hn := h.good.n1
  unfold stdE
  rw [check_of_good h.good, if_neg (by simp), if_neg (by omega), hs]
end
end Go.Proofs
namespace Go.Proofs
open Go.RowKit Go.Shelf Go.Proofs.Ct Go.Maps
theorem given_even (m : Nat) {which : Int} (h : which.tmod 2 = 0) (l : List Int) : givenP m which l = ((knownE (which.tdiv 2)).1, (knownE (which.tdiv 2)).2.1) := if_pos h
/-- the indexes of subgroups of the known groups -/
theorem known_fits (m : Nat) {which : Int} (h : which.tmod 2 = 0) (l : List Int) {g : Nat} {sub : List W} {t : Tb} (hg : (givenP m which l).1 = (g : Int)) (ht : Coset g (givenP m which l).2 sub t) : ∃ n : Nat, (knownE (which.tdiv 2)).2.2 = (n : Int) ∧ 1 ≤ n ∧ n ≤ 1000 ∧ (∃ q, n = t.length * q) ∧ (sub.length = 0 → t.length = n) := by
  rw [given_even m h] at hg ht
  have h1 := mod14 (which.tdiv 2)
  obtain ⟨g', n, k1, k2, k3⟩ := known_reg _ h1
  obtain ⟨g2, k4, k5, k6, k7⟩ := known_wds (known_all _ h1)
  have e1 : g' = g := by
    have : (knownT (which.tdiv 2 % 14).toNat).1 = (g : Int) := hg
    omega
  have e2 : g2 = g' := by omega
  subst e2
  subst e1
  obtain ⟨k8, k9⟩ := k3.fits ⟨k5, by omega⟩ k7.ok ht
  obtain ⟨_, hn1, hn2, _⟩ := k3
  exact ⟨n, k2, hn1, hn2, k8, k9⟩
/-- what CosetHolds has to see -/
structure HoldsT (which : Int) (g : Nat) (rels sub : List W) (lim : Nat) (t : Tb) (d k : Nat) : Prop where
  e : EnumT g rels sub lim t d k
  holds : holdsE g rels sub t = (true, 0)
  std : stdE g t 0 = (t, 0)
  fits : which.tmod 2 = 0 → ∃ n : Nat, (knownE (which.tdiv 2)).2.2 = (n : Int) ∧ 1 ≤ n ∧ n ≤ 1000 ∧ (n : Int).tmod (t.length : Int) = 0 ∧ (sub.length = 0 → t.length = n)
theorem holds_law (which : Int) (l k : List Int) (lim : Nat) (hl : 1 ≤ lim ∧ lim ≤ 20000) : ∃ g : Nat, (givenP 6 which l).1 = (g : Int) ∧ 1 ≤ g ∧ g ≤ 3 ∧ Wds g (givenP 6 which l).2 6 60 ∧ Wds g (lawWords g 6 k) 6 12 ∧
    (enumE g (givenP 6 which l).2 (lawWords g 6 k) (lim : Int) = ([], (0, 0), 12) ∨ ∃ t d m, HoldsT which g (givenP 6 which l).2 (lawWords g 6 k) lim t d m) := by
  obtain ⟨g, h1, h2, h3, h4⟩ := given_wds 6 (Nat.le_refl _) which l
  have h5 := wds_law h2 6 k
  have hp := h4.pres ⟨h2, by omega⟩ (by omega) (by omega)
  refine ⟨g, h1, h2, h3, h4, h5, ?_⟩
  rcases enum_cases ⟨h2, by omega⟩ hp h4.ok h5.ok (fun lim' a b => h5.good (by omega) (by omega) ⟨a, b⟩) hl with h6 | ⟨t, d, m, h6⟩
  · exact .inl h6
  · refine .inr ⟨t, d, m, h6, h6.coset.holdsE hp h5.ok, std_self h6.coset.full h6.coset.std, fun he => ?_⟩
    obtain ⟨n, k1, k2, k3, ⟨q, k4⟩, k5⟩ := known_fits 6 he l h1 h6.coset
    refine ⟨n, k1, k2, k3, ?_, k5⟩
    rw [k4, Int.natCast_mul, Int.mul_tmod_right]
end Go.Proofs
namespace Go.Proofs
open Go.RowKit Go.Shelf Go.Proofs.Ct Go.Maps
theorem cells40 {w : World} {b : Nat} {x y : Value} (h : w.heap[b]? = some (.cells #[x, y] 40 (0, 0))) : w.cell? ⟨b, 0, none⟩ = some x ∧ w.cell? ⟨b, 1, none⟩ = some y := by
  refine ⟨?_, ?_⟩ <;> (rw [cell_of_row _ _ _ _ _ _ h]; rfl)
theorem enumS (g : Int) (rels sub : List W) (limit : Int) (T : Tb) (a b c : Int) (h : enumE g rels sub limit = (T, (a, b), c)) (h1 : ∀ j, (sub.getD j []).length ≤ 100000) (h2 : sub.length ≤ 1000000) (W : World) (vr vs : Value) (hr : Tab W vr rels) (hs : Tab W vs sub) :
    Calls Try.prog 32 #[.agg #[.int .i64 g, vr], vs, .int .i64 limit] W fun e w' => (∃ u, e = .returned (.tuple #[u, .agg #[.int .i64 a, .int .i64 b, .int .i64 0], .int .i64 c]) ∧ Tab w' u T) ∧ Below W.heap.size W w' :=
  (enum32_any W vr vs g rels sub limit hr hs h1 h2).mono fun e w' (⟨⟨u, h5, h6⟩, h7⟩ : EnumPost g rels sub limit W e w') => by
    rw [h] at h5 h6
    exact ⟨⟨u, h5, h6⟩, h7⟩
theorem sameS (W : World) (a b : Value) (T : Tb) (h1 : Tab W a T) (h2 : Tab W b T) : Calls Try.prog 34 #[a, b] W fun e w'' => e = .returned (.bool true) ∧ Below W.heap.size W w'' :=
  (same18_any W a b _ _ h1 h2).mono fun _ _ ⟨h, q, h'⟩ => ⟨h.trans (ret_bool (decide_eq_true rfl)), h' ▸ below_drewN (Below.refl _ _) q⟩
theorem eql49g (a b c : Int) (w : World) : (binOp .eql 49 (.agg #[.int .i64 a, .int .i64 b, .int .i64 c]) (.agg #[.int .i64 a, .int .i64 b, .int .i64 c])).run Try.prog w = .ok (.bool true) w := by
  simp [go_sem]
/-- a box of a presentation is read -/
theorem box40 (W : World) (x y : Value) : ∀ V, Below (W.alloc (.cells #[x, y] 40)).heap.size (W.alloc (.cells #[x, y] 40)) V → (Instr.loadAt 40 (.pointer (some ⟨W.heap.size, 0, none⟩))).run Try.prog V = .ok (.agg #[x, y]) V ∧ V.cell? ⟨W.heap.size, 0, none⟩ = some x := fun V h => by
  have h1 := (h.block W.heap.size (by simp)).trans (heap_alloc_new W (.cells #[x, y] 40))
  exact ⟨load40 h1, (cells40 h1).1⟩
theorem box49 (W : World) (a b c : Int) : ∀ V, Below (W.alloc (.cells #[.int .i64 a, .int .i64 b, .int .i64 c] 49)).heap.size (W.alloc (.cells #[.int .i64 a, .int .i64 b, .int .i64 c] 49)) V → V.cell? ⟨W.heap.size, 0, none⟩ = some (.int .i64 a) ∧ V.cell? ⟨W.heap.size, 1, none⟩ = some (.int .i64 b) ∧ V.cell? ⟨W.heap.size, 2, none⟩ = some (.int .i64 c) := fun V h =>
  cells49 ((h.block W.heap.size (by simp)).trans (heap_alloc_new W _))
set_option maxRecDepth 100000 in
set_option maxHeartbeats 4000000 in
theorem holds10_any (w : World) (which limit : Int) (vl vk : Value) (l k : List Int) (hl : IntsAt w vl l) (hk : IntsAt w vk k) (hw : -9223372036854775808 ≤ which ∧ which ≤ 9223372036854775807) :
    Calls Try.prog 10 #[.int .i64 which, vl, vk, .int .i64 limit] w fun e w' => e = .returned (.bool true) ∧ Below w.heap.size w w' := by
  have HL := Lib.hid hl
  have HK := Lib.hid hk
  obtain ⟨Al, cl, rfl, hl1, hl2, -⟩ := hl.open_
  obtain ⟨Ak, ck, rfl, hk1, hk2, -⟩ := hk.open_
  have hl3 : (l.length : Int) ≤ 9223372036854775807 := by omega
  have hk3 : (k.length : Int) ≤ 9223372036854775807 := by omega
  have hl4 : (0 : Int) ≤ (l.length : Int) := Int.natCast_nonneg _
  have hk4 : (0 : Int) ≤ (k.length : Int) := Int.natCast_nonneg _
  have HW := Lib.hid hw
  clear hl hk hl1 hl2 hk1 hk2 hw
  by_cases a1 : 80 < (l.length : Int)
  · go_enter Try.func10, Try.ntmps10
    go_wp2_with fail
    refine (known9_any _).mono ?_
    rintro e v1 ⟨rfl, hb⟩
    have HB1 := Lib.hid hb
    clear hb
    go_wp2_with fail
    go_ret
    exact ⟨rfl, HB1.out⟩
  by_cases a2 : 30 < (k.length : Int)
  · have a1' : (l.length : Int) ≤ 80 := by omega
    clear a1
    go_enter Try.func10, Try.ntmps10
    go_wp2_with fail
    refine (known9_any _).mono ?_
    rintro e v1 ⟨rfl, hb⟩
    have HB1 := Lib.hid hb
    clear hb
    go_wp2_with fail
    go_ret
    exact ⟨rfl, HB1.out⟩
  have a1' : (l.length : Int) ≤ 80 := by omega
  have a2' : (k.length : Int) ≤ 30 := by omega
  clear a1 a2
  have hm0 := Int.emod_nonneg limit (show (300 : Int) ≠ 0 by omega)
  have hm1 := Int.emod_lt_of_pos limit (show (0 : Int) < 300 by omega)
  obtain ⟨lm, hlm⟩ := Int.eq_ofNat_of_zero_le hm0
  obtain ⟨g, hg0, hg1, hg2, hg3, hg4, hC⟩ := holds_law which l k (1 + lm) (by omega)
  have HC := Lib.hid hC
  have HWG := Lib.hid hg3
  have HWS := Lib.hid hg4
  have HT : Hid (∀ W, Calls Try.prog 59 #[.int .i64 limit, .int .i64 300] W fun e w' => e = .returned (.int .i64 (lm : Int)) ∧ w' = W) := Lib.hid fun W => by
    have := turn59_any W limit 300 (by omega)
    rwa [show ((300 : Nat) : Int) = 300 from rfl, hlm] at this
  have HG : Hid (∀ W, Below w.heap.size w W → Calls Try.prog 57 #[.int .i64 which, .slice Al l.length cl] W fun e w' => (∃ A c, e = .returned (.agg #[.int .i64 (g : Int), .slice A (givenP 6 which l).2.length c]) ∧ Tab w' (.slice A (givenP 6 which l).2.length c) (givenP 6 which l).2) ∧ Below W.heap.size W w') := Lib.hid fun W h => by
    rw [← hg0]
    exact given57_any W which _ l (HL.out.below h) (by omega) HW.out
  have HS : Hid (∀ W, Below w.heap.size w W → Calls Try.prog 58 #[.slice Ak k.length ck, .int .i64 (g : Int)] W fun e w' => (∃ A c, e = .returned (.slice A (lawWords g 6 k).length c) ∧ Tab w' (.slice A (lawWords g 6 k).length c) (lawWords g 6 k)) ∧ Below W.heap.size W w') := Lib.hid fun W h =>
    (words58_any W _ k g (HK.out.below h) (by omega) (by omega)).mono fun e w' (⟨⟨A, c, h1, h2⟩, h3⟩ : LawWordsPost _ W e w') => ⟨⟨A, c, h1, h2.at_⟩, h3⟩
  have hlm0 : (0 : Int) ≤ (lm : Int) := Int.natCast_nonneg _
  have hlm1 : (lm : Int) ≤ 299 := by omega
  clear hC hg3 hg4 hg0 hm0 hm1 hlm
  generalize (givenP 6 which l).2 = rels at *
  generalize lawWords g 6 k = sub at *
  go_enter Try.func10, Try.ntmps10
  go_wp2_with fail
  refine (known9_any _).mono ?_
  rintro e v1 ⟨rfl, hb⟩
  have HB1 := Lib.hid hb
  clear hb
  go_wp2_with fail
  refine (HG.out _ HB1.out).mono ?_
  rintro e v2 ⟨⟨A2, c2, rfl, ht⟩, hb⟩
  have HB2 := Lib.hid (bl3 HB1.out hb)
  have HT2 := Lib.hid ht
  clear ht hb
  have HLD := Lib.hid (box40 v2 (.int .i64 (g : Int)) (.slice A2 rels.length c2))
  have hal := (Below.refl v2.heap.size v2).alloc (Nat.le_refl _) (.cells #[.int .i64 (g : Int), .slice A2 rels.length c2] 40)
  have HT3 := Lib.hid (kept_tab.below HT2.out hal)
  have HB3 := Lib.hid (bl3 HB2.out hal)
  have HR3 := Lib.hid (Below.refl (v2.alloc (.cells #[.int .i64 (g : Int), .slice A2 rels.length c2] 40)).heap.size (v2.alloc (.cells #[.int .i64 (g : Int), .slice A2 rels.length c2] 40)))
  clear hal
  go_wp2_with fail
  generalize hw3 : v2.alloc (.cells #[.int .i64 (g : Int), .slice A2 rels.length c2] 40) = v3 at *
  generalize v2.heap.size = B at *
  refine (HS.out _ HB3.out).mono ?_
  rintro e v4 ⟨⟨A4, c4, rfl, ht⟩, hb⟩
  have HR4 := Lib.hid (bl3 HR3.out hb)
  have HS4 := Lib.hid ht
  clear ht hb HR3 HG HS
  go_wp2_with fail
  refine (HT.out _).mono ?_
  rintro e v5 ⟨rfl, rfl⟩
  clear HT
  have HTR : Hid (∀ W, Below v3.heap.size v3 W → Tab W (.slice A2 rels.length c2) rels) := Lib.hid fun W h => kept_tab.below HT3.out h
  have hlim : ((1 + lm : Nat) : Int) = 1 + (lm : Int) := by omega
  rcases HC.out with hE | ⟨t, d, m, hD⟩
  · rw [hlim] at hE
    have H32 := Lib.hid (enumS g rels sub (1 + (lm : Int)) [] 0 0 12 hE (fun j => by have := HWS.out.short j; omega) (by have := HWS.out.len; omega))
    clear HC hE
    go_wp2_with (first
      | ((with_reducible refine wpList_sel 49 ?_); refine wpList_val rfl (r_loadAt 40 (.tmp 10) _ _ rfl rfl (HLD.out _ HR4.out).1) ?_))
    refine (H32.out _ _ _ (HTR.out _ HR4.out) HS4.out).mono ?_
    rintro e v6 ⟨⟨u6, rfl, ht⟩, hb⟩
    have HB6 := Lib.hid (bl3 HB3.out (bl3 HR4.out hb))
    obtain ⟨A6, c6, rfl⟩ := Tab.form ht
    have HX6 := Lib.hid (HB6.out.alloc HB6.out.size (.cells #[.int .i64 0, .int .i64 0, .int .i64 0] 49))
    clear hb ht
    go_wp2_with fail
    go_ret
    exact ⟨rfl, HX6.out⟩
  · have hwl := HWS.out.len
    have hws : ∀ j, (sub.getD j []).length ≤ 100000 := fun j => by have := HWS.out.short j; omega
    have hE := hD.e.is (1 + lm) hD.e.room (by omega)
    rw [hlim] at hE
    have H32 := Lib.hid (enumS g rels sub (1 + (lm : Int)) t d m 0 hE hws (by omega))
    have H32b := Lib.hid (enumS g rels sub (d : Int) t d m 0 (hD.e.is d (Nat.le_refl _) (by have := hD.e.room; omega)) hws (by omega))
    obtain ⟨x, hx⟩ : ∃ x : Int, x = if 2 ≤ d then 12 else 2 := ⟨_, rfl⟩
    have HXE := Lib.hid hx
    have H32c : Hid (∀ (W : World) (vr vs : Value), Tab W vr rels → Tab W vs sub → Calls Try.prog 32 #[.agg #[.int .i64 (g : Int), vr], vs, .int .i64 ((d : Int) - 1)] W fun e w' => (∃ u, e = .returned (.tuple #[u, .agg #[.int .i64 0, .int .i64 0, .int .i64 0], .int .i64 x]) ∧ Tab w' u []) ∧ Below W.heap.size W w') := Lib.hid (by
      have h1 := hD.e.n1
      have h2 := hD.e.live
      have h3 := hD.e.most
      have h4 := hD.e.room
      by_cases h5 : 2 ≤ d
      · rw [hx, if_pos h5, show (d : Int) - 1 = ((d - 1 : Nat) : Int) by omega]
        exact enumS g rels sub _ [] 0 0 12 (hD.e.less (d - 1) (by omega) (by omega)) hws (by omega)
      · rw [hx, if_neg h5, show (d : Int) - 1 = 0 by omega]
        refine enumS g rels sub _ [] 0 0 2 (enumE_bad (HWG.out.pres (by omega) (by omega) (by omega)) ?_) hws (by omega)
        unfold badArgs
        simp)
    have H35 := Lib.hid (holdsK g rels sub t true 0 hD.holds)
    have H48 := Lib.hid (stdK g t 0 t 0 hD.std)
    have HFT := Lib.hid hD.fits
    have h1 := hD.e.n1
    have h2 := hD.e.live
    have h3 := hD.e.most
    have h4 := hD.e.room
    have h1' : 1 ≤ (t.length : Int) := by omega
    have h2' : (t.length : Int) ≤ (m : Int) := by omega
    have h3' : (m : Int) ≤ (d : Int) := by omega
    have h4' : (d : Int) ≤ 1 + (lm : Int) := by omega
    have HSL : Hid (sub.length ≤ 6) := Lib.hid hwl
    clear hx HC hE hD hws hwl HWS HWG h1 h2 h3 h4
    go_wp2_with (first
      | ((with_reducible refine wpList_sel 49 ?_); refine wpList_val rfl (r_loadAt 40 (.tmp 10) _ _ rfl rfl (HLD.out _ HR4.out).1) ?_))
    refine (H32.out _ _ _ (HTR.out _ HR4.out) HS4.out).mono ?_
    rintro e v6 ⟨⟨u6, rfl, ht⟩, hb⟩
    obtain ⟨A6, c6, rfl⟩ := Tab.form ht
    have hal := (Below.refl v6.heap.size v6).alloc (Nat.le_refl _) (.cells #[.int .i64 (d : Int), .int .i64 (m : Int), .int .i64 0] 49)
    have HR6 := Lib.hid (bl3 (bl3 HR4.out hb) hal)
    have HS6 := Lib.hid (kept_tab.below (kept_tab.below HS4.out hb) hal)
    have HT6 := Lib.hid (kept_tab.below ht hal)
    have HN6 := Lib.hid (box49 v6 d m 0)
    have HQ6 := Lib.hid (Below.refl (v6.alloc (.cells #[.int .i64 (d : Int), .int .i64 (m : Int), .int .i64 0] 49)).heap.size (v6.alloc (.cells #[.int .i64 (d : Int), .int .i64 (m : Int), .int .i64 0] 49)))
    clear hal hb ht H32 HS4 HR4
    go_wp2_with (first
      | ((with_reducible refine wpList_sel 67 ?_); refine wpList_val rfl (r_loadAt 40 (.tmp 10) _ _ rfl rfl (HLD.out _ HR6.out).1) ?_))
    generalize hw6 : v6.alloc (.cells #[.int .i64 (d : Int), .int .i64 (m : Int), .int .i64 0] 49) = W6 at *
    generalize v6.heap.size = B6 at *
    refine (H35.out _ _ _ _ (HTR.out _ HR6.out) HS6.out HT6.out).mono ?_
    rintro e v7 ⟨rfl, hb⟩
    have HR7 := Lib.hid (bl3 HR6.out hb)
    have HQ7 := Lib.hid (bl3 HQ6.out hb)
    have HS7 := Lib.hid (kept_tab.below HS6.out hb)
    have HT7 := Lib.hid (kept_tab.below HT6.out hb)
    have hf := (HLD.out _ HR7.out).2
    clear hb H35 HR6 HQ6 HS6 HT6
    go_wp2_with fail
    refine (H48.out _ _ HT7.out).mono ?_
    rintro e v8 ⟨⟨u8, rfl, ht⟩, hb⟩
    obtain ⟨A8, c8, rfl⟩ := Tab.form ht
    have HR8 := Lib.hid (bl3 HR7.out hb)
    have HQ8 := Lib.hid (bl3 HQ7.out hb)
    have HS8 := Lib.hid (kept_tab.below HS7.out hb)
    have HT8 := Lib.hid (kept_tab.below HT7.out hb)
    have HU8 := Lib.hid ht
    obtain ⟨d1, d2, d3⟩ := HN6.out _ HQ8.out
    clear hb ht H48 HR7 HQ7 HS7 HT7 hf
    go_wp2_with (first
      | ((with_reducible refine wpList_sel 81 ?_); refine wpList_val rfl (r_loadAt 40 (.tmp 10) _ _ rfl rfl (HLD.out _ HR8.out).1) ?_))
    refine (H32b.out _ _ _ (HTR.out _ HR8.out) HS8.out).mono ?_
    rintro e v9 ⟨⟨u9, rfl, ht⟩, hb⟩
    obtain ⟨A9, c9, rfl⟩ := Tab.form ht
    have hal := (Below.refl v9.heap.size v9).alloc (Nat.le_refl _) (.cells #[.int .i64 (d : Int), .int .i64 (m : Int), .int .i64 0] 49)
    have HR9 := Lib.hid (bl3 (bl3 HR8.out hb) hal)
    have HQ9 := Lib.hid (bl3 (bl3 HQ8.out hb) hal)
    have HS9 := Lib.hid (kept_tab.below (kept_tab.below HS8.out hb) hal)
    have HT9 := Lib.hid (kept_tab.below (kept_tab.below HT8.out hb) hal)
    have HU9 := Lib.hid (kept_tab.below (kept_tab.below HU8.out hb) hal)
    have HV9 := Lib.hid (kept_tab.below ht hal)
    have HN9 := Lib.hid (box49 v9 d m 0)
    have HP9 := Lib.hid (Below.refl (v9.alloc (.cells #[.int .i64 (d : Int), .int .i64 (m : Int), .int .i64 0] 49)).heap.size (v9.alloc (.cells #[.int .i64 (d : Int), .int .i64 (m : Int), .int .i64 0] 49)))
    clear d1 d2 d3
    obtain ⟨d1, d2, d3⟩ := HN6.out _ HQ9.out
    clear hal hb ht H32b HR8 HQ8 HS8 HT8 HU8
    go_wp2_with (first
      | ((with_reducible refine wpList_sel 90 ?_); refine wpList_val rfl (r_loadAt 40 (.tmp 10) _ _ rfl rfl (HLD.out _ HR9.out).1) ?_))
    generalize hw9 : v9.alloc (.cells #[.int .i64 (d : Int), .int .i64 (m : Int), .int .i64 0] 49) = W9 at *
    generalize v9.heap.size = B9 at *
    refine (H32c.out _ _ _ (HTR.out _ HR9.out) HS9.out).mono ?_
    rintro e v10 ⟨⟨u10, rfl, ht⟩, hb⟩
    obtain ⟨A10, c10, rfl⟩ := Tab.form ht
    have hal := (Below.refl v10.heap.size v10).alloc (Nat.le_refl _) (.cells #[.int .i64 0, .int .i64 0, .int .i64 0] 49)
    have HR10 := Lib.hid (bl3 (bl3 HR9.out hb) hal)
    have HQ10 := Lib.hid (bl3 (bl3 HQ9.out hb) hal)
    have HP10 := Lib.hid (bl3 (bl3 HP9.out hb) hal)
    have HT10 := Lib.hid (kept_tab.below (kept_tab.below HT9.out hb) hal)
    have HU10 := Lib.hid (kept_tab.below (kept_tab.below HU9.out hb) hal)
    have HV10 := Lib.hid (kept_tab.below (kept_tab.below HV9.out hb) hal)
    clear d1 d2 d3
    obtain ⟨d1, d2, d3⟩ := HN6.out _ HQ10.out
    clear hal hb ht H32c HR9 HQ9 HP9 HS9 HT9 HU9 HV9
    have hq := eql49g d m 0
    have HBR : Hid (∀ W, Below v3.heap.size v3 W → Below w.heap.size w W) := Lib.hid fun W h => bl3 HB3.out h
    rcases Nat.lt_or_ge d 2 with h2d | h2d
    · have hd2 : (d : Int) < 2 := by omega
      clear h2d HXE
      by_cases hev : which.tmod 2 = 0
      · obtain ⟨n, hn1, hn2, hn3, hn4, hn5⟩ := HFT.out hev
        have HK : Hid (∀ W, Calls Try.prog 60 #[.int .i64 (which.tdiv 2)] W (KnownPost (knownE (which.tdiv 2)).1 (knownE (which.tdiv 2)).2.1 (n : Int) W)) := Lib.hid fun W => by
          have := known60_any W (which.tdiv 2)
          rwa [hn1] at this
        unfold KnownPost at HK
        have dev : (which.tmod 2 == 0) = true := by simpa using hev
        have hdv : -9223372036854775808 ≤ which.tdiv 2 ∧ which.tdiv 2 ≤ 9223372036854775807 := by
          have h1 : which.tdiv 2 * 2 + which.tmod 2 = which := Int.tdiv_mul_add_tmod _ _
          have h2 := HW.out
          omega
        obtain ⟨hdv1, hdv2⟩ := hdv
        have hn0 : 1 ≤ (n : Int) := by omega
        have hn6 : (n : Int) ≤ 1000 := by omega
        have hz : (n : Int) % (t.length : Int) = 0 := by rw [← Int.tmod_eq_emod_of_nonneg (by omega)]; exact hn4
        have HSS : Hid (0 < sub.length ∨ (sub.length = 0 ∧ n = t.length)) := Lib.hid (by
          rcases Nat.eq_zero_or_pos sub.length with h | h
          · exact .inr ⟨h, (hn5 h).symm⟩
          · exact .inl h)
        clear hev hn1 hn2 hn3 hn4 hn5 HFT
        generalize (knownE (which.tdiv 2)).1 = g' at *
        generalize (knownE (which.tdiv 2)).2.1 = rels' at *
        go_wp2_with fail
        refine (HK.out _).mono ?_
        rintro e v11 ⟨⟨A11, c11, rfl, -⟩, hb⟩
        have hal := (Below.refl v11.heap.size v11).alloc (Nat.le_refl _) (.cells #[.int .i64 g', .slice A11 rels'.length c11] 40)
        have HR11 := Lib.hid (bl3 (bl3 HR10.out hb) hal)
        have HQ11 := Lib.hid (bl3 (bl3 HQ10.out hb) hal)
        have HP11 := Lib.hid (bl3 (bl3 HP10.out hb) hal)
        have HT11 := Lib.hid (kept_tab.below (kept_tab.below HT10.out hb) hal)
        have HU11 := Lib.hid (kept_tab.below (kept_tab.below HU10.out hb) hal)
        have HV11 := Lib.hid (kept_tab.below (kept_tab.below HV10.out hb) hal)
        clear hal hb HR10 HQ10 HP10 HT10 HU10 HV10 d1 d2 d3
        generalize sub.length = sn at *
        rcases HSS.out with hs | ⟨hs, hnt⟩
        · have hs1 : 0 < (sn : Int) := by omega
          have hs2 : (sn : Int) ≤ 6 := by have := HSL.out; omega
          clear hs
          go_wp2_with fail
          refine (sameS _ _ _ _ HT11.out HU11.out).mono ?_
          rintro e v12 ⟨rfl, hb⟩
          have HR12 := Lib.hid (bl3 HR11.out hb)
          have HT12 := Lib.hid (kept_tab.below HT11.out hb)
          have HV12 := Lib.hid (kept_tab.below HV11.out hb)
          have HQ12 := Lib.hid (bl3 HQ11.out hb)
          have HP12 := Lib.hid (bl3 HP11.out hb)
          clear HT11
          obtain ⟨d1, d2, d3⟩ := HN6.out _ HQ12.out
          obtain ⟨d4, d5, d6⟩ := HN9.out _ HP12.out
          clear hb
          go_wp2_with fail
          refine (sameS _ _ _ _ HV12.out HT12.out).mono ?_
          rintro e v13 ⟨rfl, hb⟩
          have HR13 := Lib.hid (bl3 HR12.out hb)
          clear d1 d2 d3 d4 d5 d6
          obtain ⟨d1, d2, d3⟩ := HN6.out _ (bl3 HQ12.out hb)
          obtain ⟨d4, d5, d6⟩ := HN9.out _ (bl3 HP12.out hb)
          clear hb
          go_wp2_with fail
          go_ret
          exact ⟨rfl, bl3 HB3.out HR13.out⟩
        · have hs1 : (sn : Int) = 0 := by omega
          have hnl : ((n : Int) == (t.length : Int)) = true := by rw [hnt]; simp
          clear hs hnt
          go_wp2_with fail
          refine (sameS _ _ _ _ HT11.out HU11.out).mono ?_
          rintro e v12 ⟨rfl, hb⟩
          have HR12 := Lib.hid (bl3 HR11.out hb)
          have HT12 := Lib.hid (kept_tab.below HT11.out hb)
          have HV12 := Lib.hid (kept_tab.below HV11.out hb)
          have HQ12 := Lib.hid (bl3 HQ11.out hb)
          have HP12 := Lib.hid (bl3 HP11.out hb)
          clear HT11
          obtain ⟨d1, d2, d3⟩ := HN6.out _ HQ12.out
          obtain ⟨d4, d5, d6⟩ := HN9.out _ HP12.out
          clear hb
          go_wp2_with fail
          refine (sameS _ _ _ _ HV12.out HT12.out).mono ?_
          rintro e v13 ⟨rfl, hb⟩
          have HR13 := Lib.hid (bl3 HR12.out hb)
          clear d1 d2 d3 d4 d5 d6
          obtain ⟨d1, d2, d3⟩ := HN6.out _ (bl3 HQ12.out hb)
          obtain ⟨d4, d5, d6⟩ := HN9.out _ (bl3 HP12.out hb)
          clear hb
          go_wp2_with fail
          go_ret
          exact ⟨rfl, bl3 HB3.out HR13.out⟩
      · have dev : (which.tmod 2 == 0) = false := by simpa using hev
        clear hev
        go_wp2_with fail
        refine (sameS _ _ _ _ HT10.out HU10.out).mono ?_
        rintro e v12 ⟨rfl, hb⟩
        have HR12 := Lib.hid (bl3 HR10.out hb)
        have HT12 := Lib.hid (kept_tab.below HT10.out hb)
        have HV12 := Lib.hid (kept_tab.below HV10.out hb)
        have HQ12 := Lib.hid (bl3 HQ10.out hb)
        have HP12 := Lib.hid (bl3 HP10.out hb)
        clear d1 d2 d3
        obtain ⟨d1, d2, d3⟩ := HN6.out _ HQ12.out
        obtain ⟨d4, d5, d6⟩ := HN9.out _ HP12.out
        clear hb
        go_wp2_with fail
        refine (sameS _ _ _ _ HV12.out HT12.out).mono ?_
        rintro e v13 ⟨rfl, hb⟩
        have HR13 := Lib.hid (bl3 HR12.out hb)
        clear d1 d2 d3 d4 d5 d6
        obtain ⟨d1, d2, d3⟩ := HN6.out _ (bl3 HQ12.out hb)
        obtain ⟨d4, d5, d6⟩ := HN9.out _ (bl3 HP12.out hb)
        clear hb
        go_wp2_with fail
        go_ret
        exact ⟨rfl, bl3 HB3.out HR13.out⟩
    · have hd2 : 2 ≤ (d : Int) := by omega
      have hx := HXE.out
      rw [if_pos h2d] at hx
      subst hx
      clear h2d HXE
      by_cases hev : which.tmod 2 = 0
      · obtain ⟨n, hn1, hn2, hn3, hn4, hn5⟩ := HFT.out hev
        have HK : Hid (∀ W, Calls Try.prog 60 #[.int .i64 (which.tdiv 2)] W (KnownPost (knownE (which.tdiv 2)).1 (knownE (which.tdiv 2)).2.1 (n : Int) W)) := Lib.hid fun W => by
          have := known60_any W (which.tdiv 2)
          rwa [hn1] at this
        unfold KnownPost at HK
        have dev : (which.tmod 2 == 0) = true := by simpa using hev
        have hdv : -9223372036854775808 ≤ which.tdiv 2 ∧ which.tdiv 2 ≤ 9223372036854775807 := by
          have h1 : which.tdiv 2 * 2 + which.tmod 2 = which := Int.tdiv_mul_add_tmod _ _
          have h2 := HW.out
          omega
        obtain ⟨hdv1, hdv2⟩ := hdv
        have hn0 : 1 ≤ (n : Int) := by omega
        have hn6 : (n : Int) ≤ 1000 := by omega
        have hz : (n : Int) % (t.length : Int) = 0 := by rw [← Int.tmod_eq_emod_of_nonneg (by omega)]; exact hn4
        have HSS : Hid (0 < sub.length ∨ (sub.length = 0 ∧ n = t.length)) := Lib.hid (by
          rcases Nat.eq_zero_or_pos sub.length with h | h
          · exact .inr ⟨h, (hn5 h).symm⟩
          · exact .inl h)
        clear hev hn1 hn2 hn3 hn4 hn5 HFT
        generalize (knownE (which.tdiv 2)).1 = g' at *
        generalize (knownE (which.tdiv 2)).2.1 = rels' at *
        go_wp2_with fail
        refine (HK.out _).mono ?_
        rintro e v11 ⟨⟨A11, c11, rfl, -⟩, hb⟩
        have hal := (Below.refl v11.heap.size v11).alloc (Nat.le_refl _) (.cells #[.int .i64 g', .slice A11 rels'.length c11] 40)
        have HR11 := Lib.hid (bl3 (bl3 HR10.out hb) hal)
        have HQ11 := Lib.hid (bl3 (bl3 HQ10.out hb) hal)
        have HP11 := Lib.hid (bl3 (bl3 HP10.out hb) hal)
        have HT11 := Lib.hid (kept_tab.below (kept_tab.below HT10.out hb) hal)
        have HU11 := Lib.hid (kept_tab.below (kept_tab.below HU10.out hb) hal)
        have HV11 := Lib.hid (kept_tab.below (kept_tab.below HV10.out hb) hal)
        clear hal hb HR10 HQ10 HP10 HT10 HU10 HV10 d1 d2 d3
        generalize sub.length = sn at *
        rcases HSS.out with hs | ⟨hs, hnt⟩
        · have hs1 : 0 < (sn : Int) := by omega
          have hs2 : (sn : Int) ≤ 6 := by have := HSL.out; omega
          clear hs
          go_wp2_with fail
          refine (sameS _ _ _ _ HT11.out HU11.out).mono ?_
          rintro e v12 ⟨rfl, hb⟩
          have HR12 := Lib.hid (bl3 HR11.out hb)
          have HT12 := Lib.hid (kept_tab.below HT11.out hb)
          have HV12 := Lib.hid (kept_tab.below HV11.out hb)
          have HQ12 := Lib.hid (bl3 HQ11.out hb)
          have HP12 := Lib.hid (bl3 HP11.out hb)
          clear HT11
          obtain ⟨d1, d2, d3⟩ := HN6.out _ HQ12.out
          obtain ⟨d4, d5, d6⟩ := HN9.out _ HP12.out
          clear hb
          go_wp2_with fail
          refine (sameS _ _ _ _ HV12.out HT12.out).mono ?_
          rintro e v13 ⟨rfl, hb⟩
          have HR13 := Lib.hid (bl3 HR12.out hb)
          clear d1 d2 d3 d4 d5 d6
          obtain ⟨d1, d2, d3⟩ := HN6.out _ (bl3 HQ12.out hb)
          obtain ⟨d4, d5, d6⟩ := HN9.out _ (bl3 HP12.out hb)
          clear hb
          go_wp2_with fail
          go_ret
          exact ⟨rfl, bl3 HB3.out HR13.out⟩
        · have hs1 : (sn : Int) = 0 := by omega
          have hnl : ((n : Int) == (t.length : Int)) = true := by rw [hnt]; simp
          clear hs hnt
          go_wp2_with fail
          refine (sameS _ _ _ _ HT11.out HU11.out).mono ?_
          rintro e v12 ⟨rfl, hb⟩
          have HR12 := Lib.hid (bl3 HR11.out hb)
          have HT12 := Lib.hid (kept_tab.below HT11.out hb)
          have HV12 := Lib.hid (kept_tab.below HV11.out hb)
          have HQ12 := Lib.hid (bl3 HQ11.out hb)
          have HP12 := Lib.hid (bl3 HP11.out hb)
          clear HT11
          obtain ⟨d1, d2, d3⟩ := HN6.out _ HQ12.out
          obtain ⟨d4, d5, d6⟩ := HN9.out _ HP12.out
          clear hb
          go_wp2_with fail
          refine (sameS _ _ _ _ HV12.out HT12.out).mono ?_
          rintro e v13 ⟨rfl, hb⟩
          have HR13 := Lib.hid (bl3 HR12.out hb)
          clear d1 d2 d3 d4 d5 d6
          obtain ⟨d1, d2, d3⟩ := HN6.out _ (bl3 HQ12.out hb)
          obtain ⟨d4, d5, d6⟩ := HN9.out _ (bl3 HP12.out hb)
          clear hb
          go_wp2_with fail
          go_ret
          exact ⟨rfl, bl3 HB3.out HR13.out⟩
      · have dev : (which.tmod 2 == 0) = false := by simpa using hev
        clear hev
        go_wp2_with fail
        refine (sameS _ _ _ _ HT10.out HU10.out).mono ?_
        rintro e v12 ⟨rfl, hb⟩
        have HR12 := Lib.hid (bl3 HR10.out hb)
        have HT12 := Lib.hid (kept_tab.below HT10.out hb)
        have HV12 := Lib.hid (kept_tab.below HV10.out hb)
        have HQ12 := Lib.hid (bl3 HQ10.out hb)
        have HP12 := Lib.hid (bl3 HP10.out hb)
        clear d1 d2 d3
        obtain ⟨d1, d2, d3⟩ := HN6.out _ HQ12.out
        obtain ⟨d4, d5, d6⟩ := HN9.out _ HP12.out
        clear hb
        go_wp2_with fail
        refine (sameS _ _ _ _ HV12.out HT12.out).mono ?_
        rintro e v13 ⟨rfl, hb⟩
        have HR13 := Lib.hid (bl3 HR12.out hb)
        clear d1 d2 d3 d4 d5 d6
        obtain ⟨d1, d2, d3⟩ := HN6.out _ (bl3 HQ12.out hb)
        obtain ⟨d4, d5, d6⟩ := HN9.out _ (bl3 HP12.out hb)
        clear hb
        go_wp2_with fail
        go_ret
        exact ⟨rfl, bl3 HB3.out HR13.out⟩
end Go.Proofs
namespace Go.Proofs
open Go.RowKit Go.ChangeShapes Go.WideShapes Go.ChangeAt Go.Deep
section
variable {H : Type} {enc : TypeId × Value → H} {W : World}
theorem spot_none {a : Addr} {v : Value} (h : W.cell? (a.add 0) = some v) : a = ⟨a.block, a.off, none⟩ := by
  obtain ⟨b, o, s⟩ := a
  cases s with
  | none => rfl
  | some q =>
    exfalso
    have e : ({ block := b, off := o, spot := some q } : Addr).add 0 = { block := b, off := o, spot := some q } := by unfold Addr.add; rw [if_pos rfl]
    rw [e] at h
    unfold World.cell? at h
    simp only [Option.isSome_some, if_true] at h
    split at h <;> cases h
theorem wf_fits {x : Int} (h : (Lit.int .i64 x).wf = true) : -9223372036854775808 ≤ x ∧ x ≤ 9223372036854775807 := by
  simpa [Lit.wf, IntKind.min, IntKind.max, IntKind.signed, IntKind.bits] using h
theorem lat_of_trod {α : Type} {R : World → Value → α → Prop} {d : α} {t e : TypeId} {base fuel : Nat} {spare : Nat → Bool} {held : Bool} {v : Value} {x : DataW H × List MemPlace} (ht : Try.prog.underlying t = some (.slice e)) (hc : Try.prog.cellsOf e = 1)
    (hR : ∀ n u y, DataW.trod enc Try.prog W base spare held n e [u] = some y → ∃ z, R W u z) (h : DataW.trod enc Try.prog W base spare held fuel t [v] = some x) : ∃ xs, LAt R d W v xs := by
  rcases open_slice1 ht hc h with ⟨hv, -⟩ | ⟨a, len, cap, m, n, V, D, Pl, hv, -, hl, hm, hmm, -, hx⟩
  · obtain rfl : v = .slice none 0 0 := by simpa using hv
    exact ⟨[], [], ⟨none, 0, 0, rfl, rfl, Nat.le_refl _, by simp [maxLen], fun h => absurd h (by simp)⟩, rfl, fun i hi => absurd hi (by simp)⟩
  · obtain rfl : v = .slice (some a) len cap := by simpa using hv
    have hlm : len ≤ m := by rw [hmm]; split <;> omega
    have hz : ∀ i, i < len → ∃ z, R W (V i) z := fun i hi => hR n (V i) _ (hx i (by omega)).2
    have hf : ∃ f : Nat → α, ∀ i, i < len → R W (V i) (f i) := by
      have hz' : ∀ i, ∃ z, i < len → R W (V i) z := fun i => by
        by_cases hi : i < len
        · obtain ⟨z, hz⟩ := hz i hi; exact ⟨z, fun _ => hz⟩
        · exact ⟨d, fun h => absurd h hi⟩
      exact ⟨fun i => Classical.choose (hz' i), fun i => Classical.choose_spec (hz' i)⟩
    obtain ⟨f, hf⟩ := hf
    refine ⟨(List.range len).map f, (List.range len).map V, ⟨_, len, cap, rfl, by simp, hl, hm, fun h0 => ?_⟩, by simp, fun i hi => ?_⟩
    · have hsp := spot_none (hx 0 (by omega)).1
      refine ⟨a.block, a.off, by rw [← hsp], fun j u hu => ?_⟩
      have hj : j < len := by have := (List.getElem?_eq_some_iff.1 hu).1; simpa using this
      have := (hx j (by omega)).1
      rw [hsp, Addr.add_lit] at this
      rw [this, ← hu]
      simp [List.getElem?_range hj]
    · have hi' : i < len := by simpa using hi
      refine ⟨V i, by simp [List.getElem?_range hi'], ?_⟩
      have : ((List.range len).map f).getD i d = f i := by simp [List.getD_eq_getElem?_getD, List.getElem?_range hi']
      rw [this]
      exact hf i hi'
theorem intsT_of_trod {t : TypeId} (ht : Try.prog.underlying t = some (.slice 3)) {base fuel : Nat} {spare : Nat → Bool} {held : Bool} {v : Value} {x : DataW H × List MemPlace} (h : DataW.trod enc Try.prog W base spare held fuel t [v] = some x) : ∃ xs, IntsAt W v xs := by
  obtain ⟨xs, vs, hS, hl, he⟩ := lat_of_trod (R := fun _ u z => u = .int .i64 z ∧ (Lit.int .i64 z).wf = true) (d := 0) ht (by kernel_rfl) (fun n u y hy => by
    obtain ⟨m, hu, -, hw⟩ := DataW.trod_int Try.underlying3 hy
    exact ⟨m, by simpa using hu, hw⟩) h
  have hvs : vs = ints xs := by
    apply List.ext_getElem (by simpa [ints] using hl)
    intro i h1 h2
    obtain ⟨u, hu, rfl, -⟩ := he i (by omega)
    have hi : i < xs.length := by omega
    rw [List.getElem?_eq_getElem h1] at hu
    rw [Option.some.inj hu]
    simp [ints, List.getD_eq_getElem?_getD, hi]
  refine ⟨xs, hvs ▸ hS, fun z hz => ?_⟩
  obtain ⟨i, hi, rfl⟩ := List.getElem_of_mem hz
  obtain ⟨u, -, -, hw⟩ := he i hi
  have e : xs.getD i 0 = xs[i] := by simp [List.getD_eq_getElem?_getD, hi]
  rw [e] at hw
  exact wf_fits hw
theorem ints_of_trod {base fuel : Nat} {spare : Nat → Bool} {held : Bool} {v : Value} {x : DataW H × List MemPlace} (h : DataW.trod enc Try.prog W base spare held fuel 24 [v] = some x) : ∃ xs, IntsAt W v xs := intsT_of_trod Try.underlying24 h
end
end Go.Proofs
