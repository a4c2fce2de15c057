/- The laws' presentations: they are valid; what Enumerate answers for them; The plain law of CosetTower; Schreier generators, plainly: how many there are, and that they generate the subgroup (the law of RewriteGenerates); The presentation of a subgroup, plainly: its order times the index is the order of the group (the law of RewriteOrders); What RewriteGenerates, RewriteOrders and TopPresent meet, plainly; Pick, and the numbers of cayleytop: known, words; The walk of CosetHolds. -/
import Derived.Test.YtmpnengjboabcaaTpCS19
import Derived.Test.YtmpnengjboabcaaTpCS20
import Derived.Test.YtmpnengjboabcaaTpCS4
import Derived.Test.YtmpnengjboabcaaTpCS5
import Derived.Test.YtmpnengjboabcaaTpCS1
import Derived.Test.YtmpnengjboabcaaTpCS7
import Derived.Test.YtmpnengjboabcaaTpCS18
import Derived.Test.YtmpnengjboabcaaTpCS8
import Derived.Test.YtmpnengjboabcaaTpCS11
namespace Go.Proofs
open Go.RowKit Go.Shelf Go.Proofs.Ct Go.Maps
theorem letBad_ok {g : Nat} {w : W} (h : LOk g w) : w.any (letBad g) = false := by
  rw [List.any_eq_false]
  intro x hx
  have := h x hx
  unfold letBad
  simp
  omega
theorem sumTo_short {l : List W} {m : Nat} (h : ∀ j, (l.getD j []).length ≤ m) : ∀ k, sumTo l k ≤ k * m
  | 0 => by simp [sumTo, foldTo]
  | k + 1 => by
    have := sumTo_short h k
    have := h k
    show sumTo l k + (l.getD k []).length ≤ (k + 1) * m
    rw [Nat.add_mul]
    omega
/-- words in g generators, few and short -/
structure Wds (g : Nat) (l : List W) (n m : Nat) : Prop where
  len : l.length ≤ n
  short : ∀ j, (l.getD j []).length ≤ m
  ok : ∀ j, j < l.length → LOk g (l.getD j [])
theorem Wds.pres {g n m : Nat} {l : List W} (h : Wds g l n m) (hg : 1 ≤ g ∧ g ≤ 16) (hn : n ≤ 100) (hnm : n * m ≤ 4000) : presE g l = 0 := by
  refine presE_none hg (Nat.le_trans h.len hn) fun j hj => ?_
  unfold presBad
  have h1 := sumTo_short h.short (j + 1)
  have h2 : (j + 1) * m ≤ n * m := Nat.mul_le_mul_right _ (by have := h.len; omega)
  rw [if_neg (by omega), if_neg (by rw [letBad_ok (h.ok j hj)]; simp)]
theorem Wds.good {g n m : Nat} {l : List W} (h : Wds g l n m) (hn : n ≤ 100) (hnm : n * m ≤ 4000) {lim : Nat} (hl : 1 ≤ lim ∧ lim ≤ 20000) : badArgs g l (lim : Int) = false := by
  have h1 := sumTo_short h.short l.length
  have h2 : l.length * m ≤ n * m := Nat.mul_le_mul_right _ h.len
  have h3 := h.len
  have h4 : (l.any fun w => w.any (letBad g)) = false := by
    rw [List.any_eq_false]
    intro w hw
    obtain ⟨j, hj, rfl⟩ := List.mem_iff_getElem.1 hw
    have := h.ok j hj
    rw [List.getD_eq_getElem?_getD, List.getElem?_eq_getElem hj] at this
    have h5 := letBad_ok this
    simp only [Option.getD_some] at h5
    rw [h5]; simp
  unfold badArgs
  rw [h4]
  simp only [Bool.or_false, Bool.or_eq_false_iff, decide_eq_false_iff_not]
  omega
theorem mem_wordsTo {g most : Nat} (hg : 1 ≤ g) : ∀ (f : Nat) (l : List Int), ∀ w ∈ wordsTo g most f l, w.length ≤ most ∧ LOk g w
  | 0, _, w, h => by simp [wordsTo] at h
  | _ + 1, [], w, h => by simp [wordsTo] at h
  | f + 1, x :: l, w, h => by
    rw [wordsTo] at h
    rcases List.mem_cons.1 h with rfl | h
    · refine ⟨?_, fun y hy => ?_⟩
      · rw [length_wordOf, List.length_take]
        have := Int.emod_lt_of_pos x (show (0 : Int) < ((most + 1 : Nat) : Int) by omega)
        have := Int.emod_nonneg x (show ((most + 1 : Nat) : Int) ≠ 0 by omega)
        omega
      · unfold wordOf at hy
        obtain ⟨z, -, rfl⟩ := List.mem_map.1 hy
        have h1 := Int.emod_lt_of_pos z (show (0 : Int) < ((2 * g : Nat) : Int) by omega)
        have h2 := Int.emod_nonneg z (show ((2 * g : Nat) : Int) ≠ 0 by omega)
        exact letter_range (by omega)
    · exact mem_wordsTo hg f _ w h
theorem wds_of_mem {g n m : Nat} {l : List W} (hn : l.length ≤ n) (h : ∀ w ∈ l, w.length ≤ m ∧ LOk g w) : Wds g l n m := by
  refine ⟨hn, fun j => ?_, fun j hj => ?_⟩
  · rw [List.getD_eq_getElem?_getD]
    rcases Nat.lt_or_ge j l.length with hj | hj
    · rw [List.getElem?_eq_getElem hj]; exact (h _ (List.getElem_mem hj)).1
    · rw [List.getElem?_eq_none hj]; exact Nat.zero_le _
  · rw [List.getD_eq_getElem?_getD, List.getElem?_eq_getElem hj]
    exact (h _ (List.getElem_mem hj)).2
/-- the known presentations -/
def knownB (i : Nat) : Bool := decide (1 ≤ (knownT i).1 ∧ (knownT i).1 ≤ 3) && decide ((knownT i).2.1.length ≤ 6) && ((knownT i).2.1.all fun w => decide (w.length ≤ 60) && w.all fun x => decide (-(knownT i).1 ≤ x) && decide (x ≤ (knownT i).1) && decide (x ≠ 0))
theorem known_wds {i : Nat} (h : knownB i = true) : ∃ g : Nat, (knownT i).1 = (g : Int) ∧ 1 ≤ g ∧ g ≤ 3 ∧ Wds g (knownT i).2.1 6 60 := by
  unfold knownB at h
  simp only [Bool.and_eq_true, decide_eq_true_eq] at h
  obtain ⟨⟨⟨h1, h2⟩, h3⟩, h4⟩ := h
  refine ⟨(knownT i).1.toNat, by omega, by omega, by omega, wds_of_mem h3 fun w hw => ?_⟩
  have h5 := List.all_eq_true.1 h4 w hw
  simp only [Bool.and_eq_true, decide_eq_true_eq] at h5
  refine ⟨h5.1, fun x hx => ?_⟩
  have h6 := List.all_eq_true.1 h5.2 x hx
  simp only [Bool.and_eq_true, decide_eq_true_eq] at h6
  omega
theorem known_all : ∀ i, i < 14 → knownB i = true := by decide +kernel
theorem mod14 (x : Int) : (x % 14).toNat < 14 := by
  have h1 := Int.emod_nonneg x (show (14 : Int) ≠ 0 by omega)
  have h2 := Int.emod_lt_of_pos x (show (0 : Int) < 14 by omega)
  omega
theorem known_reg : ∀ i, i < 14 → ∃ (g n : Nat), (knownT i).1 = (g : Int) ∧ (knownT i).2.2 = (n : Int) ∧ Reg g (knownT i).2.1 n := by
  have key : ∀ (i g n : Nat) (rs : List (List Nat)) (len log T L P : Nat), knownB i = true → (knownT i).1 = (g : Int) → (knownT i).2.2 = (n : Int) → 2 * g ≤ 8 → rs = (knownT i).2.1.map (fun w => w.map col) → certC g n rs len log T L P = true → ∃ (g n : Nat), (knownT i).1 = (g : Int) ∧ (knownT i).2.2 = (n : Int) ∧ Reg g (knownT i).2.1 n := fun i g n rs len log T L P hb hg hn h8 hrs hc => by
    obtain ⟨g', h1, -, -, h4⟩ := known_wds hb
    have : g' = g := by omega
    subst this
    exact ⟨g', n, hg, hn, reg_of_cert h8 hrs h4.ok hc⟩
  intro i hi
  have hb := known_all i hi
  match i, hi with
  | 0, _ => exact key 0 _ _ _ _ _ _ _ _ hb rfl rfl (by decide) (by decide +kernel) cert0
  | 1, _ => exact key 1 _ _ _ _ _ _ _ _ hb rfl rfl (by decide) (by decide +kernel) cert1
  | 2, _ => exact key 2 _ _ _ _ _ _ _ _ hb rfl rfl (by decide) (by decide +kernel) cert2
  | 3, _ => exact key 3 _ _ _ _ _ _ _ _ hb rfl rfl (by decide) (by decide +kernel) cert3
  | 4, _ => exact key 4 _ _ _ _ _ _ _ _ hb rfl rfl (by decide) (by decide +kernel) cert4
  | 5, _ => exact key 5 _ _ _ _ _ _ _ _ hb rfl rfl (by decide) (by decide +kernel) cert5
  | 6, _ => exact key 6 _ _ _ _ _ _ _ _ hb rfl rfl (by decide) (by decide +kernel) cert6
  | 7, _ => exact key 7 _ _ _ _ _ _ _ _ hb rfl rfl (by decide) (by decide +kernel) cert7
  | 8, _ => exact key 8 _ _ _ _ _ _ _ _ hb rfl rfl (by decide) (by decide +kernel) cert8
  | 9, _ => exact key 9 _ _ _ _ _ _ _ _ hb rfl rfl (by decide) (by decide +kernel) cert9
  | 10, _ => exact key 10 _ _ _ _ _ _ _ _ hb rfl rfl (by decide) (by decide +kernel) cert10
  | 11, _ => exact key 11 _ _ _ _ _ _ _ _ hb rfl rfl (by decide) (by decide +kernel) cert11
  | 12, _ => exact key 12 _ _ _ _ _ _ _ _ hb rfl rfl (by decide) (by decide +kernel) cert12
  | 13, _ => exact key 13 _ _ _ _ _ _ _ _ hb rfl rfl (by decide) (by decide +kernel) cert13
  | n + 14, h => omega
section
variable {g n m n' m' lim : Nat} {rels sub : List W}
/-- what Enumerate answers: no room, or a coset table that any greater limit gives as well -/
structure EnumT (g : Nat) (rels sub : List W) (lim : Nat) (t : Tb) (d k : Nat) : Prop where
  coset : Coset g rels sub t
  n1 : 1 ≤ t.length
  live : t.length ≤ k
  most : k ≤ d
  room : d ≤ lim
  is : ∀ lim', d ≤ lim' → lim' ≤ 20000 → enumE g rels sub (lim' : Int) = (t, ((d : Int), (k : Int)), 0)
  less : ∀ lim', 1 ≤ lim' → lim' < d → enumE g rels sub (lim' : Int) = ([], (0, 0), 12)
theorem enum_cases (hg : 1 ≤ g ∧ g ≤ 16) (hp : presE g rels = 0) (hr : ∀ j, j < rels.length → LOk g (rels.getD j [])) (hs : ∀ j, j < sub.length → LOk g (sub.getD j [])) (hb : ∀ lim' : Nat, 1 ≤ lim' → lim' ≤ 20000 → badArgs g sub (lim' : Int) = false) (hl : 1 ≤ lim ∧ lim ≤ 20000) :
    enumE g rels sub (lim : Int) = ([], (0, 0), 12) ∨ ∃ t d k, EnumT g rels sub lim t d k := by
  cases hx : runS (2 * g) lim rels sub with
  | none => exact .inl (enumE_full hp (hb lim hl.1 hl.2) hx)
  | some s =>
    right
    obtain ⟨hG, -⟩ := run_good hl.1 hr hs hx
    obtain ⟨h1, h2, h3⟩ := coset_of_run hg.1 hg.2 hl.2 hl.1 hr hs hx
    obtain ⟨m1, m2⟩ := run_mi hl.1 hr hs hx
    have hlv := liv_live hG.rest
    have hm0 := hG.m0
    refine ⟨stdT (tabS s) 0, s.t.length, s.most.toNat, h1, h1.full.good.n1, by rw [h3]; omega, by omega, hG.n2, fun lim' ha hb' => ?_, fun lim' ha hb' => ?_⟩
    · have hn1 := hG.n1
      have h4 := run_mono hl.1 hr hs hx ha
      rw [enumE_some hp (hb lim' (by omega) hb') h4, h2, show ((s.most.toNat : Nat) : Int) = s.most by omega]
    · have hn2 := hG.n2
      exact enumE_full hp (hb lim' ha (by omega)) (run_less hl.1 hr hs hx ha hb')
theorem Ct.Coset.holdsE {t : Tb} (h : Coset g rels sub t) (hp : presE g rels = 0) (hs : ∀ j, j < sub.length → LOk g (sub.getD j [])) : Go.Proofs.holdsE g rels sub t = (true, 0) := by
  have h4 : (sub.any fun w => w.any (letBad g)) = false := by
    rw [List.any_eq_false]
    intro w hw
    obtain ⟨j, hj, rfl⟩ := List.mem_iff_getElem.1 hw
    have := hs j hj
    rw [List.getD_eq_getElem?_getD, List.getElem?_eq_getElem hj] at this
    have h5 := letBad_ok this
    simp only [Option.getD_some] at h5
    rw [h5]; simp
  unfold Go.Proofs.holdsE
  rw [if_neg (by rw [hp]; simp), Int.toNat_natCast, if_neg (by rw [h4]; simp), check_of_good h.full.good, if_neg (by simp), h.holds]
end
end Go.Proofs
namespace Go.Proofs
open Go.RowKit Go.Shelf Go.Proofs.Ct Go.Maps
section
variable {g : Nat} {rels sub : List W} {t u : Tb}
theorem repsE_full (h : Full g t) (hs : std t 0 = some t) : repsE g t = (reps t, 0) := by
  unfold repsE
  rw [check_of_good h.good, if_neg (by simp), if_pos hs]
end
end Go.Proofs
namespace Go.Proofs.Ct
section
variable {g : Nat} {α : Type} {D : α → Prop} {act : α → Nat → α} {rels : List W}
theorem lok_redP {a : W} (h : LOk g a) : LOk g (red a) := fun x hx => h x (red_mem hx)
theorem Mdl.back (h : Mdl g rels D act) {p : α} (hp : D p) {x : Int} (hx : -(g : Int) ≤ x ∧ x ≤ g ∧ x ≠ 0) : act (act p (col x)) (col (-x)) = p := by
  rw [col_inv hx.2.2]
  exact h.inv p _ hp (col_ltL hx)
theorem Mdl.redW (h : Mdl g rels D act) {p : α} (hp : D p) : ∀ (n : Nat) (u : W), u.length = n → LOk g u → actW act p (red u) = actW act p u
  | 0, u, hu, _ => by rw [List.length_eq_zero_iff.1 hu]; rfl
  | n + 1, u, hu, hz => by
    rcases List.eq_nil_or_concat u with rfl | ⟨c, x, rfl⟩
    · cases hu
    · rw [List.concat_eq_append] at hu hz ⊢
      have hc : LOk g c := fun y hy => hz y (List.mem_append_left _ hy)
      have hx := hz x (List.mem_append_right _ (List.mem_singleton_self _))
      have ih := Mdl.redW h hp n c (by simpa using hu) hc
      rw [red_snoc, actW_app, ← ih]
      have hr := lok_redP hc
      generalize red c = s at *
      rcases List.eq_nil_or_concat s with rfl | ⟨d, y, rfl⟩
      · rw [push_nil]; rfl
      · rw [List.concat_eq_append] at hr ⊢
        rw [push_snoc]
        split
        · rename_i ho
          obtain ⟨h1, h2⟩ := opp_iff.1 ho
          subst h2
          have hd : LOk g d := fun z hz => hr z (List.mem_append_left _ hz)
          rw [actW_app]
          exact (h.back (h.clW hd hp) (hr y (List.mem_append_right _ (List.mem_singleton_self _)))).symm
        · rw [actW_app]
theorem Mdl.fe (h : Mdl g rels D act) {p : α} (hp : D p) {u v : W} (hu : LOk g u) (hv : LOk g v) (e : Fe u v) : actW act p u = actW act p v := by
  rw [← h.redW hp _ u rfl hu, ← h.redW hp _ v rfl hv, e]
theorem Mdl.nil (h : Mdl g rels D act) : Mdl g [] D act := ⟨h.cl, h.inv, fun _ _i _ hi => absurd hi (Nat.not_lt_zero _)⟩
theorem Full.free {t : Tb} (h : Full g t) : Mdl g [] (fun x => x < t.length) (Ct.nx t) := h.mdl (fun _j hj => absurd hj (Nat.not_lt_zero _)) fun _ _ _j hj => absurd hj (Nat.not_lt_zero _)
/-- what words of a list do not move, words in them do not move -/
theorem Mdl.fixS (h : Mdl g rels D act) {p : α} (hp : D p) {G : List W} (hG : ∀ j, LOk g (G.getD j [])) (hf : ∀ j, j < G.length → actW act p (G.getD j []) = p) : ∀ v : W, LOk g (wordS G v) ∧ actW act p (wordS G v) = p
  | [] => ⟨LOk.nil, rfl⟩
  | x :: v => by
    obtain ⟨i1, i2⟩ := Mdl.fixS h hp hG hf v
    have hf' : ∀ j, actW act p (G.getD j []) = p := fun j => by
      rcases Nat.lt_or_ge j G.length with hj | hj
      · exact hf j hj
      · rw [List.getD_eq_getElem?_getD, List.getElem?_eq_none hj]; rfl
    have e : wordS G (x :: v) = word1 G x ++ wordS G v := rfl
    have h1 : LOk g (word1 G x) ∧ actW act p (word1 G x) = p := by
      unfold word1
      split
      · exact ⟨hG _, hf' _⟩
      · refine ⟨(hG _).inv, ?_⟩
        have := h.invW (hG (-x - 1).toNat) hp
        rw [hf'] at this
        exact this
    rw [e, actW_app, h1.2, i2]
    exact ⟨h1.1.app i1, rfl⟩
end
section
variable {g : Nat} {t : Tb}
theorem reps_nil (ht : Full g t) (hs : std t 0 = some t) : (reps t).getD 0 [] = [] := by
  rcases reps_grown ht hs 0 (by rw [reps_len ht hs]; exact ht.good.n1) with ⟨-, e⟩ | ⟨i, c, h, -⟩
  · exact e
  · exact absurd h (Nat.not_lt_zero _)
/-- the pair of the tree edge that leads to a coset -/
def tp (t : Tb) (j : Nat) : Nat × Nat :=
  if col (((reps t).getD j []).getLastD 0) % 2 = 0 then (nx t j (flp (col (((reps t).getD j []).getLastD 0))), col (((reps t).getD j []).getLastD 0) / 2) else (j, col (((reps t).getD j []).getLastD 0) / 2)
structure TP (g : Nat) (t : Tb) (j i c : Nat) : Prop where
  ij : i < j
  hc : c < 2 * g
  e : t.at i c = (j : Int)
  r : (reps t).getD j [] = (reps t).getD i [] ++ [letter c]
  is : tp t j = if c % 2 = 0 then (i, c / 2) else (j, c / 2)
theorem eback_nx (ht : Full g t) {i c j : Nat} (hi : i < t.length) (hc : c < 2 * g) (e : t.at i c = (j : Int)) : nx t j (flp c) = i := by
  have h3 := ht.good.eback hi hc e
  unfold nx
  rw [show t.at j (flp c) = (i : Int) from h3]
  rfl
theorem tp_of (ht : Full g t) {i j c : Nat} (hi : i < t.length) (hc : c < 2 * g) (e : t.at i c = (j : Int)) (r : (reps t).getD j [] = (reps t).getD i [] ++ [letter c]) : tp t j = if c % 2 = 0 then (i, c / 2) else (j, c / 2) := by
  unfold tp
  rw [r, List.getLastD_concat, col_letter, eback_nx ht hi hc e]
theorem tp_at (ht : Full g t) (hs : std t 0 = some t) {j : Nat} (h0 : 0 < j) (hj : j < t.length) : ∃ i c, TP g t j i c := by
  rcases reps_grown ht hs j (by rw [reps_len ht hs]; exact hj) with ⟨e, -⟩ | ⟨i, c, h1, h2, h3, h4⟩
  · omega
  · exact ⟨i, c, h1, h2, h3, h4, tp_of ht (by omega) h2 h3 h4⟩
theorem tp_inj (ht : Full g t) (hs : std t 0 = some t) {j k : Nat} (h0 : 0 < j) (hj : j < t.length) (k0 : 0 < k) (hk : k < t.length) (e : tp t j = tp t k) : j = k := by
  obtain ⟨i, c, a1, a2, a3, a4, a5⟩ := tp_at ht hs h0 hj
  obtain ⟨m, d, b1, b2, b3, b4, b5⟩ := tp_at ht hs k0 hk
  rw [a5, b5] at e
  by_cases p : c % 2 = 0 <;> by_cases q : d % 2 = 0
  · rw [if_pos p, if_pos q] at e
    obtain ⟨e1, e2⟩ := Prod.mk.inj e
    subst e1
    have : c = d := by omega
    subst this
    have := a3.symm.trans b3
    omega
  · rw [if_pos p, if_neg q] at e
    obtain ⟨e1, e2⟩ := Prod.mk.inj e
    subst e1
    have h1 := eback_nx ht (by omega) b2 b3
    have h2 : flp d = c := by unfold flp; rw [if_neg q]; omega
    rw [h2] at h1
    unfold nx at h1
    rw [a3] at h1
    have : (j : Int).toNat = j := rfl
    omega
  · rw [if_neg p, if_pos q] at e
    obtain ⟨e1, e2⟩ := Prod.mk.inj e
    subst e1
    have h1 := eback_nx ht (by omega) a2 a3
    have h2 : flp c = d := by unfold flp; rw [if_neg p]; omega
    rw [h2] at h1
    unfold nx at h1
    rw [b3] at h1
    have : (k : Int).toNat = k := rfl
    omega
  · rw [if_neg p, if_neg q] at e
    exact (Prod.mk.inj e).1
theorem tp_nt (ht : Full g t) (hs : std t 0 = some t) {j : Nat} (h0 : 0 < j) (hj : j < t.length) : (tp t j).1 < t.length ∧ (tp t j).2 < g ∧ nt t (reps t) (tp t j).1 (tp t j).2 = false := by
  obtain ⟨i, c, a1, a2, a3, a4, a5⟩ := tp_at ht hs h0 hj
  rw [a5]
  by_cases p : c % 2 = 0
  · rw [if_pos p]
    refine ⟨by show i < _; omega, by show c / 2 < g; omega, ?_⟩
    show nt t (reps t) i (c / 2) = false
    have hd : dest t i (c / 2) = j := by
      unfold dest
      rw [show 2 * (c / 2) = c by omega, a3]
      rfl
    have e : letter c = (c / 2 : Nat) + 1 := by unfold letter; rw [if_neg (by omega)]
    unfold nt
    rw [hd, a4, e]
    simp
  · rw [if_neg p]
    refine ⟨hj, by show c / 2 < g; omega, ?_⟩
    show nt t (reps t) j (c / 2) = false
    have hd : dest t j (c / 2) = i := by
      have h3 := ht.good.eback (by omega) a2 a3
      have e3 : flp c = 2 * (c / 2) := by unfold flp; rw [if_neg p]; omega
      unfold dest
      have h4 : t.at j (flp c) = (i : Int) := h3
      rw [e3] at h4
      rw [h4]
      rfl
    have e : letter c = -((c / 2 : Nat) + 1) := by unfold letter; rw [if_pos (by omega)]
    unfold nt
    rw [hd, a4, e]
    simp
theorem nt_tp (ht : Full g t) (hs : std t 0 = some t) {r h : Nat} (hr : r < t.length) (hh : h < g) (hn : nt t (reps t) r h = false) : ∃ j, 0 < j ∧ j < t.length ∧ tp t j = (r, h) := by
  obtain ⟨d1, d2⟩ := ht.nx hr (show 2 * h < 2 * g by omega)
  have hd : dest t r h = nx t r (2 * h) := rfl
  have he : t.at r (2 * h) = ((nx t r (2 * h) : Nat) : Int) := d2
  unfold nt at hn
  rw [hd] at hn
  generalize nx t r (2 * h) = d at *
  have l1 : letter (2 * h) = ((h + 1 : Nat) : Int) := by unfold letter; rw [if_neg (by omega)]; omega
  have l2 : letter (2 * h + 1) = -((h + 1 : Nat) : Int) := by unfold letter; rw [if_pos (by omega)]; omega
  have h0 := reps_nil ht hs
  have hor : (reps t).getD d [] = (reps t).getD r [] ++ [((h + 1 : Nat) : Int)] ∨ (reps t).getD r [] = (reps t).getD d [] ++ [-((h + 1 : Nat) : Int)] := by
    rcases Bool.and_eq_false_iff.1 hn with h | h
    · exact .inl (by simpa using h)
    · exact .inr (by simpa using h)
  rcases hor with h1 | h1
  · refine ⟨d, ?_, d1, ?_⟩
    · rcases Nat.eq_zero_or_pos d with e | e
      · rw [e, h0] at h1
        simp at h1
      · exact e
    · rw [tp_of ht hr (by omega) he (by rw [h1, l1]), if_pos (by omega)]
      simp
  · refine ⟨r, ?_, hr, ?_⟩
    · rcases Nat.eq_zero_or_pos r with e | e
      · rw [e, h0] at h1
        simp at h1
      · exact e
    · have h3 := ht.good.eback hr (show 2 * h < 2 * g by omega) he
      have e3 : flp (2 * h) = 2 * h + 1 := by unfold flp; rw [if_pos (by omega)]
      have h4 : t.at d (2 * h + 1) = (r : Int) := by rw [← e3]; exact h3
      rw [tp_of ht d1 (by omega) h4 (by rw [h1, l2]), if_neg (by omega)]
      simp
      omega
theorem nt_mem {R : List W} {r h : Nat} (hr : r < t.length) (hh : h < g) (hn : nt t R r h = true) : (r, h) ∈ pairs t R g := by
  refine Decidable.byContradiction fun hm => ?_
  have h1 := place_number (t := t) (R := R) (gens := g) hr hh
  have h2 : placeP (pairTo t R g t.length) r h = 0 := if_neg hm
  rw [h2] at h1
  unfold number at h1
  rw [if_pos hn, pairRow_succ, if_pos hn, List.length_append] at h1
  simp at h1
  omega
theorem nodup_map_of {β : Type} {f : β → Nat} : ∀ {l : List β}, (∀ x ∈ l, ∀ y ∈ l, f x = f y → x = y) → l.Nodup → (l.map f).Nodup
  | [], _, _ => List.nodup_nil
  | x :: l, h, hn => by
    obtain ⟨h1, h2⟩ := List.nodup_cons.1 hn
    rw [List.map_cons, List.nodup_cons]
    refine ⟨fun hm => ?_, nodup_map_of (fun a ha b hb => h a (List.mem_cons_of_mem _ ha) b (List.mem_cons_of_mem _ hb)) h2⟩
    obtain ⟨y, hy, e⟩ := List.mem_map.1 hm
    have := h y (List.mem_cons_of_mem _ hy) x (List.mem_cons_self ..) e
    rw [this] at hy
    exact h1 hy
def enc (g : Nat) (p : Nat × Nat) : Nat := p.1 * g + p.2
theorem enc_inj {p q : Nat × Nat} (hp : p.2 < g) (hq : q.2 < g) (e : enc g p = enc g q) : p = q := by
  unfold enc at e
  have h1 : (p.1 * g + p.2) / g = p.1 := by rw [Nat.mul_comm, Nat.mul_add_div (by omega), Nat.div_eq_of_lt hp]; rfl
  have h2 : (q.1 * g + q.2) / g = q.1 := by rw [Nat.mul_comm, Nat.mul_add_div (by omega), Nat.div_eq_of_lt hq]; rfl
  have h3 : p.1 = q.1 := by rw [← h1, e, h2]
  rw [h3] at e
  exact Prod.ext h3 (by omega)
theorem enc_lt {n : Nat} {p : Nat × Nat} (h1 : p.1 < n) (h2 : p.2 < g) : enc g p < n * g := by
  unfold enc
  calc p.1 * g + p.2 < p.1 * g + g := by omega
    _ = (p.1 + 1) * g := by rw [Nat.add_mul, Nat.one_mul]
    _ ≤ n * g := Nat.mul_le_mul_right _ h1
theorem pairs_count (ht : Full g t) (hs : std t 0 = some t) : (pairs t (reps t) g).length + (t.length - 1) = t.length * g := by
  have hn1 := ht.good.n1
  have hg1 := ht.good.g1
  have hps : ∀ p ∈ pairs t (reps t) g, p.1 < t.length ∧ p.2 < g ∧ nt t (reps t) p.1 p.2 = true := fun p hp => mem_pairTo hp
  have hA : ((pairs t (reps t) g).map (enc g) ++ (List.range (t.length - 1)).map fun j => enc g (tp t (j + 1))).Nodup := by
    refine List.nodup_append.2 ⟨nodup_map_of (fun x hx y hy e => enc_inj (hps x hx).2.1 (hps y hy).2.1 e) (pairTo_nodup g _), nodup_map_on (fun x hx y hy e => ?_) List.nodup_range, fun a ha b hb e => ?_⟩
    · have hx' := List.mem_range.1 hx
      have hy' := List.mem_range.1 hy
      have h1 := tp_nt ht hs (j := x + 1) (by omega) (by omega)
      have h2 := tp_nt ht hs (j := y + 1) (by omega) (by omega)
      have := tp_inj ht hs (by omega) (by omega) (by omega) (by omega) (enc_inj h1.2.1 h2.2.1 e)
      omega
    · obtain ⟨p, hp, rfl⟩ := List.mem_map.1 ha
      obtain ⟨j, hj, rfl⟩ := List.mem_map.1 hb
      have hj' := List.mem_range.1 hj
      have h1 := tp_nt ht hs (j := j + 1) (by omega) (by omega)
      have h2 := enc_inj (hps p hp).2.1 h1.2.1 e
      have h3 := (hps p hp).2.2
      rw [h2, h1.2.2] at h3
      cases h3
  have h1 := len_le_of_sub (b := List.range (t.length * g)) hA (fun x hx => by
    rw [List.mem_range]
    rcases List.mem_append.1 hx with hx | hx
    · obtain ⟨p, hp, rfl⟩ := List.mem_map.1 hx
      exact enc_lt (hps p hp).1 (hps p hp).2.1
    · obtain ⟨j, hj, rfl⟩ := List.mem_map.1 hx
      have hj' := List.mem_range.1 hj
      have h1 := tp_nt ht hs (j := j + 1) (by omega) (by omega)
      exact enc_lt h1.1 h1.2.1)
  have h2 := len_le_of_sub (a := List.range (t.length * g)) (b := (pairs t (reps t) g).map (enc g) ++ (List.range (t.length - 1)).map fun j => enc g (tp t (j + 1))) List.nodup_range (fun x hx => by
    rw [List.mem_range] at hx
    have hr : x / g < t.length := (Nat.div_lt_iff_lt_mul (by omega)).2 hx
    have hh : x % g < g := Nat.mod_lt _ (by omega)
    have hx' : enc g (x / g, x % g) = x := by unfold enc; rw [Nat.mul_comm]; exact Nat.div_add_mod x g
    rw [List.mem_append]
    cases hn : nt t (reps t) (x / g) (x % g) with
    | true => exact .inl (List.mem_map.2 ⟨_, nt_mem hr hh hn, hx'⟩)
    | false =>
      obtain ⟨j, h0, hj, e⟩ := nt_tp ht hs hr hh hn
      refine .inr (List.mem_map.2 ⟨j - 1, List.mem_range.2 (by omega), ?_⟩)
      show enc g (tp t (j - 1 + 1)) = x
      rw [show j - 1 + 1 = j by omega, e, hx'])
  simp only [List.length_append, List.length_map, List.length_range] at h1 h2
  omega
/-- there is one Schreier generator more than the index times the number of generators less one -/
theorem pairs_many (ht : Full g t) (hs : std t 0 = some t) : (pairs t (reps t) g).length = t.length * (g - 1) + 1 := by
  have h := pairs_count ht hs
  have hn1 := ht.good.n1
  have hg1 := ht.good.g1
  obtain ⟨k, rfl⟩ : ∃ k, g = k + 1 := ⟨g - 1, by omega⟩
  rw [Nat.mul_add, Nat.mul_one] at h
  show _ = t.length * k + 1
  omega
/-- the words of the generators lead from 0 to 0 -/
theorem gens_fix (ht : Full g t) (hs : std t 0 = some t) (j : Nat) : actW (nx t) 0 ((gensW t (reps t) g).getD j []) = 0 := by
  rcases Nat.lt_or_ge j (pairs t (reps t) g).length with hj | hj
  · rw [gensW_get hj]
    have hR := reps_ok ht
    obtain ⟨h1, h2, -⟩ := pairs_get hj
    generalize (pairs t (reps t) g).getD j (0, 0) = p at *
    obtain ⟨r, k⟩ := p
    have h1' : r < t.length := h1
    have hx := gen_ok (g := g) (h := k) h2
    have hd := (ht.nx h1' (col_ltL hx)).1
    have hA : LOk g ((reps t).getD r [] ++ [((k + 1 : Nat) : Int)] ++ inv ((reps t).getD (nx t r (col ((k + 1 : Nat) : Int))) [])) := ((hR r).app (fun z hz => by rw [List.mem_singleton.1 hz]; exact hx)).app (hR _).inv
    rw [ht.free.fe ht.good.n1 (schr_ok hR h2) hA (schr_fe hR h2), actW_app, actW_app, (rl_rep ht hs r h1').2]
    show actW (nx t) (nx t r (col ((k + 1 : Nat) : Int))) _ = 0
    have h3 := ht.free.invW (hR (nx t r (col ((k + 1 : Nat) : Int)))) ht.good.n1
    rw [(rl_rep ht hs _ hd).2] at h3
    exact h3
  · rw [List.getD_eq_getElem?_getD, List.getElem?_eq_none (by rw [length_gensW]; exact hj)]
    rfl
end
end Go.Proofs.Ct
namespace Go.Proofs.Ct
theorem letter_col {x : Int} (h : x ≠ 0) : letter (col x) = x := by
  unfold letter col
  repeat (first | omega | split)
theorem letter_flp (c : Nat) : letter (flp c) = -letter c := by
  unfold letter flp
  repeat (first | omega | split)
section
variable {g : Nat} {t u : Tb} {rels : List W}
theorem mem_relTo {R : List W} {n : Nat} {w : W} : w ∈ relTo t R g rels n ↔ ∃ r i, r < n ∧ i < rels.length ∧ w = rwW t R g r (rels.getD i []) ∧ 0 < w.length := by
  unfold relTo relRow solid
  simp only [List.mem_flatMap, List.mem_filter, List.mem_map, List.mem_range, decide_eq_true_eq]
  constructor
  · rintro ⟨r, hr, ⟨i, hi, rfl⟩, h⟩
    exact ⟨r, i, hr, hi, rfl, h⟩
  · rintro ⟨r, i, hr, hi, rfl, h⟩
    exact ⟨r, hr, ⟨i, hi, rfl⟩, h⟩
theorem getD_mem_lt {l : List W} {j : Nat} (h : j < l.length) : l.getD j [] ∈ l := by
  rw [List.getD_eq_getElem?_getD, List.getElem?_eq_getElem h]
  exact List.getElem_mem h
theorem mem_getD {l : List W} {w : W} (h : w ∈ l) : ∃ j, j < l.length ∧ l.getD j [] = w := by
  obtain ⟨j, hj, e⟩ := List.mem_iff_getElem.1 h
  exact ⟨j, hj, by rw [List.getD_eq_getElem?_getD, List.getElem?_eq_getElem hj, ← e]; rfl⟩
theorem relTo_ok (ht : Full g t) (hr : ∀ j, j < rels.length → LOk g (rels.getD j [])) : ∀ j, j < (relTo t (reps t) g rels t.length).length → LOk (pairs t (reps t) g).length ((relTo t (reps t) g rels t.length).getD j []) := fun j hj => by
  obtain ⟨r, i, h1, h2, h3, -⟩ := mem_relTo.1 (getD_mem_lt hj)
  rw [h3, rwW_rl]
  exact lok_redP (rl_bd ht (hr i h2) h1)
/-- a coset and an element of the subgroup -/
def act3 (g : Nat) (t u : Tb) (p : Nat × Nat) (c : Nat) : Nat × Nat := (nx t p.1 c, actW (nx u) p.2 (oneL t (reps t) g p.1 (letter c)))
theorem act3_W : ∀ {w : W} {p : Nat × Nat}, Nz w → actW (act3 g t u) p w = (actW (nx t) p.1 w, actW (nx u) p.2 (rl t (reps t) g p.1 w))
  | [], p, _ => rfl
  | x :: w, p, h => by
    have hx : x ≠ 0 := h x (List.mem_cons_self ..)
    have hw : Nz w := fun y hy => h y (List.mem_cons_of_mem _ hy)
    show actW (act3 g t u) (act3 g t u p (col x)) w = _
    rw [act3_W hw]
    unfold act3
    rw [letter_col hx]
    show _ = (actW (nx t) (nx t p.1 (col x)) w, actW (nx u) p.2 (oneL t (reps t) g p.1 x ++ rl t (reps t) g (nx t p.1 (col x)) w))
    rw [actW_app]
theorem rl_wordS (ht : Full g t) (hs : std t 0 = some t) : ∀ {v : W}, LOk (pairs t (reps t) g).length v → Fe (rl t (reps t) g 0 (wordS (gensW t (reps t) g) v)) v
  | [], _ => rfl
  | x :: v, h => by
    obtain ⟨hx, hv⟩ := h.cons
    have ih := rl_wordS ht hs hv
    have hR := reps_ok ht
    have hG := gensW_ok (t := t) (g := g) hR
    have e : wordS (gensW t (reps t) g) (x :: v) = word1 (gensW t (reps t) g) x ++ wordS (gensW t (reps t) g) v := rfl
    have h1 : Fe (rl t (reps t) g 0 (word1 (gensW t (reps t) g) x)) [x] ∧ actW (nx t) 0 (word1 (gensW t (reps t) g) x) = 0 := by
      unfold word1
      by_cases h0 : 0 < x
      · rw [if_pos h0]
        have hi : (x - 1).toNat < (gensW t (reps t) g).length := by rw [length_gensW]; omega
        have hb := back_gens ht hs hi
        rw [rwW_rl, show (((x - 1).toNat + 1 : Nat) : Int) = x by omega] at hb
        refine ⟨?_, gens_fix ht hs _⟩
        show red _ = red [x]
        rw [hb]
        rfl
      · rw [if_neg h0]
        have hi : (-x - 1).toNat < (gensW t (reps t) g).length := by rw [length_gensW]; omega
        have hb := back_gens ht hs hi
        rw [rwW_rl, show (((-x - 1).toNat + 1 : Nat) : Int) = -x by omega] at hb
        obtain ⟨c1, c2⟩ := rl_inv (R := reps t) ht (hG (-x - 1).toNat) ht.good.n1
        rw [gens_fix ht hs] at c1 c2
        refine ⟨?_, c2⟩
        rw [c1]
        have h3 : Fe (rl t (reps t) g 0 ((gensW t (reps t) g).getD (-x - 1).toNat [])) [-x] := by
          show red _ = red [-x]
          rw [hb]
          rfl
        have h4 := h3.inv (rl_nz _ _) (Nz.one (by omega))
        have e2 : inv [-x] = [x] := by simp [inv]
        rw [e2] at h4
        exact h4
    rw [e, rl_app, h1.2]
    exact h1.1.app ih (rl_nz _ _) (Nz.one hx.2.2) (rl_nz _ _) hv.nz
theorem orders_law (ht : Full g t) (hs : std t 0 = some t) (hr : ∀ j, j < rels.length → LOk g (rels.getD j [])) (hc : ∀ i, i < t.length → ∀ j, j < rels.length → Way t i (rels.getD j []) i)
    (hu : Coset (pairs t (reps t) g).length (relTo t (reps t) g rels t.length) [] u) {n : Nat} (hreg : Reg g rels n) : n = t.length * u.length := by
  have hR := reps_ok ht
  have hG := gensW_ok (t := t) (g := g) hR
  have h0 := reps_nil ht hs
  have hQ := relTo_ok (rels := rels) ht hr
  have MU := hu.full.mdl hQ hu.rel
  have hrw : ∀ r i x, r < t.length → i < rels.length → x < u.length → actW (nx u) x (rl t (reps t) g r (rels.getD i [])) = x := fun r i x h1 h2 h3 => by
    rw [← MU.redW h3 _ _ rfl (rl_bd ht (hr i h2) h1), ← rwW_rl]
    rcases Nat.eq_zero_or_pos (rwW t (reps t) g r (rels.getD i [])).length with h | h
    · rw [List.length_eq_zero_iff.1 h]; rfl
    · obtain ⟨j, hj, e⟩ := mem_getD (mem_relTo.2 ⟨r, i, h1, h2, rfl, h⟩)
      rw [← e]
      exact MU.rel x j h3 hj
  have hone : ∀ r c, r < t.length → c < 2 * g → LOk (pairs t (reps t) g).length (oneL t (reps t) g r (letter c)) := fun r c h1 h2 => by
    have := rl_bd (R := reps t) ht (w := [letter c]) (r := r) (fun z hz => by rw [List.mem_singleton.1 hz]; have := letter_range h2; omega) h1
    rwa [rl_one] at this
  have MT : Mdl g rels (fun p : Nat × Nat => p.1 < t.length ∧ p.2 < u.length) (act3 g t u) := by
    refine ⟨fun p c hp hc' => ⟨(ht.nx hp.1 hc').1, (hu.full.way (hone _ _ hp.1 hc') hp.2).1⟩, fun p c hp hc' => ?_, fun p i hp hi => ?_⟩
    · have hl := letter_range hc'
      have h1 := oneL_back (R := reps t) ht hp.1 (x := letter c) (by omega)
      rw [col_letter] at h1
      unfold act3
      show (nx t (nx t p.1 c) (flp c), actW (nx u) (actW (nx u) p.2 (oneL t (reps t) g p.1 (letter c))) (oneL t (reps t) g (nx t p.1 c) (letter (flp c)))) = p
      rw [letter_flp, h1, MU.invW (hone _ _ hp.1 hc') hp.2]
      refine Prod.ext ?_ rfl
      exact ht.free.inv p.1 c hp.1 hc'
    · rw [act3_W (hr i hi).nz, hrw _ _ _ hp.1 hi hp.2, ht.actW_of (hr i hi) hp.1 (hc _ hp.1 i hi)]
  obtain ⟨act, n1, -, hM, hreach, huniv⟩ := hreg
  have hn0 : 0 < n := n1
  have hg1 := ht.good.n1
  have hu1 := hu.full.good.n1
  obtain ⟨φ, φ0, φD, φe⟩ := huniv MT (p0 := ((0, 0) : Nat × Nat)) ⟨hg1, hu1⟩
  have hw1 : ∀ x, LOk g (word1 (gensW t (reps t) g) x) := fun x => by
    unfold word1
    split
    · exact hG _
    · exact (hG _).inv
  have hwS : ∀ v, LOk g (wordS (gensW t (reps t) g) v) := fun v => (ht.free.fixS hg1 hG (fun j _ => gens_fix ht hs j) v).1
  have hq : ∀ {v : W} {p : Nat}, Nz v → actW (fun p c => actW act p (word1 (gensW t (reps t) g) (letter c))) p v = actW act p (wordS (gensW t (reps t) g) v) := by
    intro v
    induction v with
    | nil => intro p _; rfl
    | cons x v ih =>
      intro p hz
      have e : wordS (gensW t (reps t) g) (x :: v) = word1 (gensW t (reps t) g) x ++ wordS (gensW t (reps t) g) v := rfl
      rw [e, actW_app]
      show actW _ (actW act p (word1 (gensW t (reps t) g) (letter (col x)))) v = _
      rw [letter_col (hz x (List.mem_cons_self ..)), ih fun y hy => hz y (List.mem_cons_of_mem _ hy)]
  have MQ : Mdl (pairs t (reps t) g).length (relTo t (reps t) g rels t.length) (fun x => x < n) (fun p c => actW act p (word1 (gensW t (reps t) g) (letter c))) := by
    refine ⟨fun p c hp _ => hM.clW (hw1 _) hp, fun p c hp hc' => ?_, fun p j hp hj => ?_⟩
    · show actW act (actW act p (word1 (gensW t (reps t) g) (letter c))) (word1 (gensW t (reps t) g) (letter (flp c))) = p
      have hl := letter_range hc'
      rw [letter_flp, word1_neg _ (by omega)]
      exact hM.invW (hw1 _) hp
    · rw [hq (hQ j hj).nz]
      obtain ⟨r, i, h1, h2, h3, -⟩ := mem_relTo.1 (getD_mem_lt hj)
      have f1 := wordS_red (G := gensW t (reps t) g) (fun j => (hG j).nz) _ _ rfl (rl_nz (t := t) (R := reps t) (g := g) r (rels.getD i []))
      have f2 := rl_fe (R := reps t) ht hR (hr i h2) h1
      rw [ht.actW_of (hr i h2) h1 (hc r h1 i h2)] at f2
      rw [h3, rwW_rl, hM.fe hp (hwS _) (((hR r).app (hr i h2)).app (hR r).inv) (f1.trans f2), actW_app, actW_app]
      have hp1 := hM.clW (hR r) hp
      rw [hM.rel _ i hp1 h2]
      exact hM.invW (hR r) hp
  obtain ⟨ψ, ψ0, ψD, ψe⟩ := hu.univ MQ (p0 := 0) hn0 (fun j hj => absurd hj (Nat.not_lt_zero _))
  have ψW : ∀ {v : W} {x : Nat}, LOk (pairs t (reps t) g).length v → x < u.length → ψ (actW (nx u) x v) = actW act (ψ x) (wordS (gensW t (reps t) g) v) := by
    intro v
    induction v with
    | nil => intro x _ _; rfl
    | cons y v ih =>
      intro x hv hx
      obtain ⟨hy, hv'⟩ := hv.cons
      obtain ⟨e1, e2⟩ := hu.full.nx hx (col_ltL hy)
      have e : wordS (gensW t (reps t) g) (y :: v) = word1 (gensW t (reps t) g) y ++ wordS (gensW t (reps t) g) v := rfl
      show ψ (actW (nx u) (nx u x (col y)) v) = _
      rw [ih hv' e1, e, actW_app, ← ψe x (col y) _ hx (col_ltL hy) e2, letter_col hy.2.2]
  have φW : ∀ {w : W} {a : Nat}, LOk g w → a < n → φ (actW act a w) = actW (act3 g t u) (φ a) w := by
    intro w
    induction w with
    | nil => intro a _ _; rfl
    | cons y w ih =>
      intro a hw ha
      obtain ⟨hy, hw'⟩ := hw.cons
      show φ (actW act (act a (col y)) w) = actW (act3 g t u) (act3 g t u (φ a) (col y)) w
      rw [ih hw' (hM.cl a _ ha (col_ltL hy)), φe a _ ha (col_ltL hy)]
  have hword : ∀ a, a < n → ∃ w, LOk g w ∧ actW act 0 w = a := by
    intro a
    induction a using Nat.strongRecOn with
    | _ a ih =>
      intro ha
      rcases Nat.eq_zero_or_pos a with rfl | h
      · exact ⟨[], LOk.nil, rfl⟩
      · obtain ⟨p, c, h1, h2, h3⟩ := hreach a h ha
        obtain ⟨w, w1, w2⟩ := ih p h1 (by omega)
        have hl : LOk g [letter c] := fun z hz => by rw [List.mem_singleton.1 hz]; have := letter_range h2; omega
        refine ⟨w ++ [letter c], w1.app hl, ?_⟩
        rw [actW_app, w2]
        show act p (col (letter c)) = a
        rw [col_letter, h3]
  have hback : ∀ a, a < n → actW act (ψ (φ a).2) ((reps t).getD (φ a).1 []) = a := fun a ha => by
    obtain ⟨w, w1, rfl⟩ := hword a ha
    rw [φW w1 hn0, φ0, act3_W w1.nz]
    show actW act (ψ (actW (nx u) 0 (rl t (reps t) g 0 w))) ((reps t).getD (actW (nx t) 0 w) []) = _
    have f2 := rl_fe (R := reps t) ht hR w1 hg1
    rw [h0] at f2
    have hi : LOk g (([] : W) ++ w ++ inv ((reps t).getD (actW (nx t) 0 w) [])) := (LOk.nil.app w1).app (hR _).inv
    rw [ψW (rl_bd ht w1 hg1) hu1, ψ0, hM.fe hn0 (hwS _) hi f2, actW_app]
    show actW act (actW act (actW act 0 w) _) _ = _
    have h5 := hM.invW (hR (actW (nx t) 0 w)).inv ha
    rw [inv_inv] at h5
    exact h5
  have l1 : n ≤ t.length * u.length := by
    have := len_le_of_sub (a := (List.range n).map fun a => enc u.length (φ a)) (b := List.range (t.length * u.length)) (nodup_map_on (fun x hx y hy e => by
      have hx' := List.mem_range.1 hx
      have hy' := List.mem_range.1 hy
      have := enc_inj (φD x hx').2 (φD y hy').2 e
      rw [← hback x hx', ← hback y hy', this]) List.nodup_range) (fun x hx => by
      obtain ⟨a, ha, rfl⟩ := List.mem_map.1 hx
      have ha' := List.mem_range.1 ha
      exact List.mem_range.2 (enc_lt (φD a ha').1 (φD a ha').2))
    simpa using this
  have l2 : t.length * u.length ≤ n := by
    have := len_le_of_sub (a := List.range (t.length * u.length)) (b := (List.range n).map fun a => enc u.length (φ a)) List.nodup_range (fun k hk => by
      have hk' := List.mem_range.1 hk
      have hi : k / u.length < t.length := (Nat.div_lt_iff_lt_mul (by omega)).2 hk'
      have hx : k % u.length < u.length := Nat.mod_lt _ (by omega)
      have he : enc u.length (k / u.length, k % u.length) = k := by unfold enc; rw [Nat.mul_comm]; exact Nat.div_add_mod k u.length
      generalize k / u.length = i at *
      generalize k % u.length = x at *
      have hv := reps_ok hu.full x
      have hvx := (rl_rep hu.full hu.std x hx).2
      generalize (reps u).getD x [] = v at *
      have hW := (hwS v).app (hR i)
      refine List.mem_map.2 ⟨actW act 0 (wordS (gensW t (reps t) g) v ++ (reps t).getD i []), List.mem_range.2 (hM.clW hW hn0), ?_⟩
      show enc u.length (φ _) = k
      rw [φW hW hn0, φ0, actW_app, act3_W (hwS v).nz]
      show enc u.length (actW (act3 g t u) (actW (nx t) 0 (wordS (gensW t (reps t) g) v), actW (nx u) 0 (rl t (reps t) g 0 (wordS (gensW t (reps t) g) v))) _) = k
      rw [(ht.free.fixS hg1 hG (fun j _ => gens_fix ht hs j) v).2, MU.fe hu1 (rl_bd ht (hwS v) hg1) hv (rl_wordS ht hs hv), hvx, act3_W (hR i).nz]
      show enc u.length (actW (nx t) 0 ((reps t).getD i []), actW (nx u) x (rl t (reps t) g 0 ((reps t).getD i []))) = k
      rw [(rl_rep ht hs i hi).1, (rl_rep ht hs i hi).2]
      exact he)
    simpa using this
  omega
end
end Go.Proofs.Ct
namespace Go.Proofs
open Go.RowKit Go.Shelf Go.Proofs.Ct Go.Maps
theorem lens_take (l : List W) (k : Nat) : lens (l.take k) ≤ lens l := by
  have h : lens l = lens (l.take k) + lens (l.drop k) := by rw [← lens_append, List.take_append_drop]
  omega
theorem sumTo_take (l : List W) : ∀ k, k ≤ l.length → sumTo l k = lens (l.take k)
  | 0, _ => rfl
  | k + 1, h => by
    have ih := sumTo_take l k (by omega)
    have e : l.take (k + 1) = l.take k ++ [l.getD k []] := by
      rw [List.take_succ_eq_append_getElem (by omega), List.getD_eq_getElem?_getD, List.getElem?_eq_getElem (by omega)]
      rfl
    unfold sumTo at ih ⊢
    rw [foldTo, ih, e, lens_append, lens_one]
theorem len_lens {l : List W} (j : Nat) : (l.getD j []).length ≤ lens l := by
  rcases Nat.lt_or_ge j l.length with h | h
  · have h1 := sumTo_take l (j + 1) (by omega)
    have h2 := sumTo_take l j (by omega)
    have h3 := lens_take l (j + 1)
    have h4 : sumTo l (j + 1) = sumTo l j + (l.getD j []).length := rfl
    omega
  · rw [List.getD_eq_getElem?_getD, List.getElem?_eq_none h]
    exact Nat.zero_le _
theorem pres_of {m : Nat} {l : List W} (hm : 1 ≤ m ∧ m ≤ 16) (hl : tooLong l = false) (ho : ∀ j, j < l.length → LOk m (l.getD j [])) : presE m l = 0 := by
  obtain ⟨h1, h2⟩ := tooLong_false.1 hl
  refine presE_none hm h1 fun j hj => ?_
  unfold presBad
  have h3 := sumTo_take l (j + 1) (by omega)
  have h4 := lens_take l (j + 1)
  rw [if_neg (by omega), if_neg (by rw [letBad_ok (ho j hj)]; simp)]
theorem holdsB_nil {rels sub : List W} {t : Tb} (h : holdsB rels sub t = true) : holdsB rels [] t = true := by
  unfold holdsB at h ⊢
  rw [Bool.and_eq_true, Bool.and_eq_true] at h
  rw [h.1.1, h.2]
  rfl
theorem bad_nil {g lim : Nat} (h : 1 ≤ lim ∧ lim ≤ 20000) : badArgs g [] (lim : Int) = false := by
  have h1 : sumTo ([] : List W) 0 = 0 := rfl
  unfold badArgs
  simp only [List.any_nil, Bool.or_false, Bool.or_eq_false_iff, decide_eq_false_iff_not, List.length_nil]
  omega
/-- what the presentation of a subgroup, and its enumeration, answer -/
structure PresL (n g : Nat) (rels : List W) (t : Tb) (m : Int) (q : List W) (f : Int) (U : Tb) (d k h : Int) : Prop where
  is : presentE g rels t = ((m, q), f)
  cases : f = 5 ∨ f = 4 ∨ (f = 0 ∧ 1 ≤ m)
  rows : ∀ j, (q.getD j []).length ≤ 4000
  many : q.length ≤ 100
  enum : enumE m q [] 2000 = (U, (d, k), h)
  ul : U.length ≤ 2000
  fin : f = 0 → h = 12 ∨ (h = 0 ∧ U.length * t.length = n)
theorem present_law {g n : Nat} {rels sub : List W} {t : Tb} (_hg : 1 ≤ g ∧ g ≤ 16) (hp : presE g rels = 0) (hr : ∀ j, j < rels.length → LOk g (rels.getD j [])) (ht : Coset g rels sub t) (hreg : Reg g rels n) : ∃ m q f U d k h, PresL n g rels t m q f U d k h := by
  have hre := repsE_full ht.full ht.std
  have hH := holdsB_nil ht.holds
  have hmany := pairs_many ht.full ht.std
  by_cases h1 : 16 < (pairs t (reps t) g).length
  · refine ⟨0, [], 5, [], 0, 0, 2, ⟨?_, .inl rfl, fun _ => Nat.zero_le _, Nat.zero_le _, ?_, Nat.zero_le _, fun h => by cases h⟩⟩
    · unfold presentE
      rw [if_neg (by rw [hp]; simp), hre, if_neg (by simp), if_neg (by rw [hH]; simp), Int.toNat_natCast, if_pos h1]
    · exact enumE_pres (by decide)
  · by_cases h2 : tooLong (relTo t (reps t) g rels t.length) = true
    · refine ⟨0, [], 4, [], 0, 0, 2, ⟨?_, .inr (.inl rfl), fun _ => Nat.zero_le _, Nat.zero_le _, ?_, Nat.zero_le _, fun h => by cases h⟩⟩
      · unfold presentE
        rw [if_neg (by rw [hp]; simp), hre, if_neg (by simp), if_neg (by rw [hH]; simp), Int.toNat_natCast, if_neg h1, if_pos h2]
      · exact enumE_pres (by decide)
    · have h2' := Bool.eq_false_iff.2 h2
      obtain ⟨z1, z2⟩ := tooLong_false.1 h2'
      have ho := relTo_ok (rels := rels) ht.full hr
      have hpq := pres_of (m := (pairs t (reps t) g).length) ⟨by omega, by omega⟩ h2' ho
      have hE : presentE g rels t = ((((pairs t (reps t) g).length : Int), relTo t (reps t) g rels t.length), 0) := by
        unfold presentE
        rw [if_neg (by rw [hp]; simp), hre, if_neg (by simp), if_neg (by rw [hH]; simp), Int.toNat_natCast, if_neg h1, if_neg h2]
      rcases enum_cases (lim := 2000) ⟨by omega, by omega⟩ hpq ho (fun j hj => absurd hj (Nat.not_lt_zero _)) (fun lim' a b => bad_nil ⟨a, b⟩) (by omega) with c1 | ⟨u, d, k, c1⟩
      · exact ⟨_, _, 0, [], 0, 0, 12, ⟨hE, .inr (.inr ⟨rfl, by omega⟩), fun j => Nat.le_trans (len_lens j) z2, z1, c1, Nat.zero_le _, fun _ => .inl rfl⟩⟩
      · refine ⟨_, _, 0, u, d, k, 0, ⟨hE, .inr (.inr ⟨rfl, by omega⟩), fun j => Nat.le_trans (len_lens j) z2, z1, c1.is 2000 c1.room (by omega), by have := c1.live; have := c1.most; have := c1.room; omega, fun _ => .inr ⟨rfl, ?_⟩⟩⟩
        rw [orders_law ht.full ht.std hr ht.rel c1.coset hreg, Nat.mul_comm]
end Go.Proofs
namespace Go.Proofs
open Go.RowKit Go.Shelf Go.Proofs.Ct Go.Maps
theorem pick138_any (w : World) (x : Int) (n : Nat) (hn : 1 ≤ n ∧ n ≤ 1000000) : Calls Try.prog 138 #[.int .i64 x, .int .i64 (n : Int)] w fun e w' => e = .returned (.int .i64 (x % (n : Int))) ∧ w' = w := by
  have hk0 : (0 : Int) < (n : Int) := by omega
  have hk1 : (n : Int) ≤ 1000000 := by omega
  have h3 : x.tmod n < n := Int.tmod_lt_of_pos _ hk0
  have h4 : -(n : Int) < x.tmod n := by
    have := Int.lt_tmod_of_pos x hk0
    omega
  have hne : (n : Int) ≠ 0 := by omega
  have h5 : x % (n : Int) = if x.tmod n < 0 then x.tmod n + n else x.tmod n := by
    have h6 := Int.emod_nonneg x hne
    have h7 := Int.emod_lt_of_pos x hk0
    rw [Int.tmod_eq_emod] at h3 h4 ⊢
    simp only [Int.natAbs_natCast] at h3 h4 ⊢
    split at h3 <;> split <;> simp_all <;> omega
  have H5 := Lib.hid h5
  clear h5
  generalize hm : x.tmod (n : Int) = m at *
  by_cases hlt : m < 0
  · have HR : Hid (x % (n : Int) = m + n) := Lib.hid (by rw [H5.out, if_pos hlt])
    clear H5
    go_enter Try.func138, Try.ntmps138
    go_wp2_with fail
    go_ret
    exact ⟨ret_int HR.out.symm, (by first | trivial | rfl)⟩
  · have HR : Hid (x % (n : Int) = m) := Lib.hid (by rw [H5.out, if_neg hlt])
    clear H5
    go_enter Try.func138, Try.ntmps138
    go_wp2_with fail
    go_ret
    exact ⟨ret_int HR.out.symm, (by first | trivial | rfl)⟩
def topK (x : Int) : Int := if 9 ≤ x % 12 then x % 12 + 2 else x % 12
set_option maxRecDepth 100000 in
set_option maxHeartbeats 1000000 in
theorem known76_any (w : World) (x : Int) : Calls Try.prog 76 #[.int .i64 x] w (KnownPost (knownE (topK x)).1 (knownE (topK x)).2.1 (knownE (topK x)).2.2 w) := by
  have hy1 := Int.emod_nonneg x (show (12 : Int) ≠ 0 by omega)
  have hy2 := Int.emod_lt_of_pos x (show (0 : Int) < 12 by omega)
  have HP : Hid (∀ W, Calls Try.prog 138 #[.int .i64 x, .int .i64 12] W fun e w' => e = .returned (.int .i64 (x % 12)) ∧ w' = W) := Lib.hid fun W => pick138_any W x 12 (by omega)
  have HK : Hid (∀ W, Calls Try.prog 68 #[.int .i64 (topK x)] W (KnownPost (knownE (topK x)).1 (knownE (topK x)).2.1 (knownE (topK x)).2.2 W)) := Lib.hid fun W => known60_any W _
  have hb0 : Below w.heap.size w (w.alloc (.cells zero40 40)) := (Below.refl _ _).alloc (Nat.le_refl _) _
  have HB0 := Lib.hid hb0
  have HG0 := Lib.hid (heap_alloc_new w (.cells zero40 40))
  have hsz : (w.alloc (.cells zero40 40)).heap.size = w.heap.size + 1 := World.size_alloc _ _
  have HSZ := Lib.hid hsz
  clear hb0 hsz
  unfold KnownPost at HK ⊢
  have HTK : Hid (topK x = if 9 ≤ x % 12 then x % 12 + 2 else x % 12) := Lib.hid rfl
  generalize knownE (topK x) = kn at *
  obtain ⟨p1, p2, p3⟩ := kn
  generalize topK x = tk at *
  generalize x % 12 = y at *
  by_cases hy : 9 ≤ y
  · obtain rfl : tk = y + 2 := by rw [HTK.out, if_pos hy]
    clear HTK
    go_enter Try.func76, Try.ntmps76
    go_wp2_with ((with_reducible refine wpList_sel 2 ?_); refine wpList_val rfl (r_alloc40 rfl) ?_)
    refine (HP.out _).mono ?_
    rintro e w1 ⟨rfl, hw1⟩
    subst hw1
    go_wp2_with fail
    refine (HK.out _).mono ?_
    rintro e w2 ⟨⟨A2, c2, rfl, ht⟩, hb⟩
    have HG2 : Hid (w2.heap[w.heap.size]? = some (.cells zero40 40 (0, 0))) := Lib.hid ((hb.block _ (by rw [HSZ.out]; omega)).trans HG0.out)
    have HT2 := Lib.hid ht
    have HB2 := Lib.hid (bl3 HB0.out hb)
    have HS2 := Lib.hid hb.size
    clear ht hb
    go_wp2_with ((with_reducible refine wpList_selStore 40 2 12 ?_); refine wpList_skip rfl (r_store40 (.tmp 2) (.tmp 12) rfl w.heap.size zero40 _ rfl rfl HG2.out rfl rfl (one40 _ _ _ _)) ?_)
    try simp only [Exit.inBlock, Exit.then]
    refine bodyPost_ret (results_40_tmp (p := 2) (q := 3) rfl _ _ w.heap.size _ (.int .i64 p3) rfl rfl (setRow_heap _ _ _ _ _ _ HG2.out) rfl) rfl ⟨⟨_, _, rfl, TabB.keep (fun w' hk => HT2.out w' fun k h1 h2 => hk k (by have := HSZ.out; omega) h2) (by rw [World.setRow]; simp) fun k hk _ => setRow_other _ _ k _ (by omega)⟩, below_setRow HB2.out (Nat.le_refl _) _⟩
  · obtain rfl : tk = y := by rw [HTK.out, if_neg hy]
    clear HTK
    go_enter Try.func76, Try.ntmps76
    go_wp2_with ((with_reducible refine wpList_sel 2 ?_); refine wpList_val rfl (r_alloc40 rfl) ?_)
    refine (HP.out _).mono ?_
    rintro e w1 ⟨rfl, hw1⟩
    subst hw1
    go_wp2_with fail
    refine (HK.out _).mono ?_
    rintro e w2 ⟨⟨A2, c2, rfl, ht⟩, hb⟩
    have HG2 : Hid (w2.heap[w.heap.size]? = some (.cells zero40 40 (0, 0))) := Lib.hid ((hb.block _ (by rw [HSZ.out]; omega)).trans HG0.out)
    have HT2 := Lib.hid ht
    have HB2 := Lib.hid (bl3 HB0.out hb)
    clear ht hb
    go_wp2_with ((with_reducible refine wpList_selStore 40 2 12 ?_); refine wpList_skip rfl (r_store40 (.tmp 2) (.tmp 12) rfl w.heap.size zero40 _ rfl rfl HG2.out rfl rfl (one40 _ _ _ _)) ?_)
    try simp only [Exit.inBlock, Exit.then]
    refine bodyPost_ret (results_40_tmp (p := 2) (q := 3) rfl _ _ w.heap.size _ (.int .i64 p3) rfl rfl (setRow_heap _ _ _ _ _ _ HG2.out) rfl) rfl ⟨⟨_, _, rfl, TabB.keep (fun w' hk => HT2.out w' fun k h1 h2 => hk k (by have := HSZ.out; omega) h2) (by rw [World.setRow]; simp) fun k hk _ => setRow_other _ _ k _ (by omega)⟩, below_setRow HB2.out (Nat.le_refl _) _⟩
def topW (g : Nat) (l : List Int) : List W := (wordsOf g 8 (l.take 18)).take 2
theorem r_slice_hi24v {o : Oper} {a : Act} {w : World} (x y : Operand) (A : Option Addr) (n c h : Nat) (ho : o.op = .slice 24 x none (some y) none) (hx : a.eval x = .slice A n c) (hy : a.eval y = .int .i64 (h : Int)) (hc : h ≤ c) : (execOp a.eval o).run Try.prog w = .ok (.value (sliced A 0 h c 1)) w := by
  have hu : Try.prog.underlying 24 = some (.slice (Try.prog.elem 24)) := by kernel_rfl
  have hs : (sizeOf (Try.prog.elem 24)).run Try.prog w = .ok 1 w := by kernel_rfl
  unfold execOp
  simp only [ho, hx, hy, Option.map_none, Option.map_some, Sem.run_bind, run_sliceAt_slice w 24 _ _ _ _ hu, run_slice_h w 24 A n c hu .i64 (h : Int) (by omega) (by omega)]
  simp [hs]
set_option maxRecDepth 100000 in
set_option maxHeartbeats 1000000 in
theorem topWords77_any (w : World) (v : Value) (l : List Int) (g : Nat) (h : IntsAt w v l) (hg : 1 ≤ g ∧ g ≤ 400) : Calls Try.prog 77 #[v, .int .i64 (g : Int)] w (LawWordsPost (topW g l) w) := by
  have HC : Hid (∀ W u (l' : List Int), IntsAt W u l' → l'.length ≤ 18 → Calls Try.prog 135 #[u, .int .i64 (g : Int), .int .i64 8] W (WordsPost (wordsOf g 8 l') W)) := Lib.hid fun W u l' h1 h2 => wordsOf111_any W u l' g 8 h1 hg (by omega) (by omega)
  have hwl := wordsTo_length g 8 (l.take 18).length (l.take 18)
  have hwl2 : (wordsOf g 8 (l.take 18)).length ≤ 18 := Nat.le_trans hwl (by rw [List.length_take]; omega)
  have HI := Lib.hid h
  obtain ⟨A, c, rfl, h1, h2, -⟩ := h.open_
  clear h hwl
  have h2' : (l.length : Int) ≤ 9223372036854775807 := by omega
  have hl0 : (0 : Int) ≤ (l.length : Int) := Int.natCast_nonneg _
  unfold LawWordsPost topW
  unfold WordsPost at HC
  have htk : ∃ A1 n1 c1, n1 ≤ 18 ∧ IntsAt w (.slice A1 n1 c1) (l.take 18) ∧ (l.take 18).length = n1 ∧ (18 < l.length → n1 = 18 ∧ c1 = c ∧ sliced A 0 18 c 1 = .slice A1 n1 c) ∧ (¬ 18 < l.length → A1 = A ∧ n1 = l.length ∧ c1 = c) := by
    by_cases hl : 18 < l.length
    · obtain ⟨A1, e1, i1⟩ := ints_sliced (k := 0) (h := 18) HI.out (Nat.zero_le _) (by omega)
      exact ⟨A1, 18, c, by omega, i1, by rw [List.length_take]; omega, fun _ => ⟨rfl, rfl, e1⟩, fun h => absurd hl h⟩
    · rw [List.take_of_length_le (by omega)]
      exact ⟨A, l.length, c, by omega, HI.out, rfl, fun h => absurd h hl, fun _ => ⟨rfl, rfl, rfl⟩⟩
  obtain ⟨A1, n1, c1, hn1, hi1, hln, hbig, hsml⟩ := htk
  have HI1 := Lib.hid hi1
  have HLN := Lib.hid hln
  generalize l.take 18 = l1 at *
  clear hi1 hln
  have HC1 := Lib.hid (fun W (hb : Below w.heap.size w W) => HC.out W (.slice A1 n1 c1) l1 (HI1.out.below hb) (by rw [HLN.out]; exact hn1))
  generalize wordsOf g 8 l1 = X at *
  have hxl : (X.length : Int) ≤ 18 := by omega
  have hx0 : (0 : Int) ≤ (X.length : Int) := Int.natCast_nonneg _
  obtain ⟨n, hn⟩ : ∃ n, n = min X.length 2 := ⟨_, rfl⟩
  have HT : Hid ((X.take 2).length = n ∧ (X.length ≤ 2 → X.take 2 = X) ∧ (2 < X.length → n = 2)) := Lib.hid ⟨by rw [List.length_take]; omega, fun h => List.take_of_length_le h, fun _ => by omega⟩
  have HNX : Hid (n ≤ X.length) := Lib.hid (by omega)
  clear hn
  by_cases hl : 18 < l.length
  · have hl' : (18 : Int) < (l.length : Int) := by omega
    obtain ⟨rfl, rfl, hs1⟩ := hbig hl
    have HS1 := Lib.hid hs1
    have hc18 : 18 ≤ c1 := by omega
    clear hbig hsml hl hs1 hn1
    go_enter Try.func77, Try.ntmps77
    go_wp2_with ((with_reducible refine wpList_sel 10 ?_); refine wpList_val rfl (r_slice_hi24v (.tmp 9) (.const (.int .i64 18)) _ l.length c1 18 rfl rfl rfl hc18) ?_; rw [HS1.out])
    refine (HC1.out _ (Below.refl _ _)).mono ?_
    rintro e w2 ⟨⟨A5, c5, rfl, ht⟩, hb⟩
    by_cases hx : 2 < X.length
    · have hx' : (2 : Int) < (X.length : Int) := by omega
      obtain ⟨A6, hs6, ht6⟩ := tabB_sliced (h := 2) ht (by omega)
      have HE : Hid ((∃ A c, Ending.returned (.slice A6 2 c5) = .returned (.slice A (X.take 2).length c) ∧ TabB w.heap.size w2 (.slice A (X.take 2).length c) (X.take 2)) ∧ Below w.heap.size w w2) := Lib.hid ⟨⟨A6, c5, by rw [HT.out.1, HT.out.2.2 hx], by rw [HT.out.1, HT.out.2.2 hx]; exact ht6⟩, hb⟩
      have HS6 := Lib.hid hs6
      obtain ⟨A7, c7, e7, hc7, -, -⟩ := LAt.open_ ht.at_
      obtain ⟨rfl, -, rfl⟩ := Value.slice.inj e7
      have hc2 : 2 ≤ c5 := by omega
      clear ht hb ht6 e7 hs6 hx
      go_wp2_with ((with_reducible refine wpList_sel 18 ?_); refine wpList_val rfl (r_slice_hi31 (.tmp 17) (.const (.int .i64 2)) _ X.length c5 2 rfl rfl rfl hc2) ?_; rw [HS6.out])
      go_ret
      exact HE.out
    · have hx' : ¬ (2 : Int) < (X.length : Int) := by omega
      have HE : Hid ((∃ A c, Ending.returned (.slice A5 X.length c5) = .returned (.slice A (X.take 2).length c) ∧ TabB w.heap.size w2 (.slice A (X.take 2).length c) (X.take 2)) ∧ Below w.heap.size w w2) := Lib.hid (by
        rw [HT.out.2.1 (by omega)]
        exact ⟨⟨A5, c5, rfl, ht⟩, hb⟩)
      clear ht hb hx
      go_wp2_with fail
      go_ret
      exact HE.out
  · have hl' : ¬ (18 : Int) < (l.length : Int) := by omega
    obtain ⟨rfl, rfl, rfl⟩ := hsml hl
    clear hbig hsml hl hn1
    go_enter Try.func77, Try.ntmps77
    go_wp2_with fail
    refine (HC1.out _ (Below.refl _ _)).mono ?_
    rintro e w2 ⟨⟨A5, c5, rfl, ht⟩, hb⟩
    by_cases hx : 2 < X.length
    · have hx' : (2 : Int) < (X.length : Int) := by omega
      obtain ⟨A6, hs6, ht6⟩ := tabB_sliced (h := 2) ht (by omega)
      have HE : Hid ((∃ A c, Ending.returned (.slice A6 2 c5) = .returned (.slice A (X.take 2).length c) ∧ TabB w.heap.size w2 (.slice A (X.take 2).length c) (X.take 2)) ∧ Below w.heap.size w w2) := Lib.hid ⟨⟨A6, c5, by rw [HT.out.1, HT.out.2.2 hx], by rw [HT.out.1, HT.out.2.2 hx]; exact ht6⟩, hb⟩
      have HS6 := Lib.hid hs6
      obtain ⟨A7, c7, e7, hc7, -, -⟩ := LAt.open_ ht.at_
      obtain ⟨rfl, -, rfl⟩ := Value.slice.inj e7
      have hc2 : 2 ≤ c5 := by omega
      clear ht hb ht6 e7 hs6 hx
      go_wp2_with ((with_reducible refine wpList_sel 18 ?_); refine wpList_val rfl (r_slice_hi31 (.tmp 17) (.const (.int .i64 2)) _ X.length c5 2 rfl rfl rfl hc2) ?_; rw [HS6.out])
      go_ret
      exact HE.out
    · have hx' : ¬ (2 : Int) < (X.length : Int) := by omega
      have HE : Hid ((∃ A c, Ending.returned (.slice A5 X.length c5) = .returned (.slice A (X.take 2).length c) ∧ TabB w.heap.size w2 (.slice A (X.take 2).length c) (X.take 2)) ∧ Below w.heap.size w w2) := Lib.hid (by
        rw [HT.out.2.1 (by omega)]
        exact ⟨⟨A5, c5, rfl, ht⟩, hb⟩)
      clear ht hb hx
      go_wp2_with fail
      go_ret
      exact HE.out
end Go.Proofs
namespace Go.Proofs
open Go.RowKit Go.Shelf Go.Proofs.Ct Go.Maps
theorem cells40 {w : World} {b : Nat} {x y : Value} (h : w.heap[b]? = some (.cells #[x, y] 40 (0, 0))) : w.cell? ⟨b, 0, none⟩ = some x ∧ w.cell? ⟨b, 1, none⟩ = some y := by
  refine ⟨?_, ?_⟩ <;> (rw [cell_of_row _ _ _ _ _ _ h]; rfl)
theorem enumS (g : Int) (rels sub : List W) (limit : Int) (T : Tb) (a b c : Int) (h : enumE g rels sub limit = (T, (a, b), c)) (h1 : ∀ j, (sub.getD j []).length ≤ 100000) (h2 : sub.length ≤ 1000000) (W : World) (vr vs : Value) (hr : Tab W vr rels) (hs : Tab W vs sub) :
    Calls Try.prog 40 #[.agg #[.int .i64 g, vr], vs, .int .i64 limit] W fun e w' => (∃ u, e = .returned (.tuple #[u, .agg #[.int .i64 a, .int .i64 b, .int .i64 0], .int .i64 c]) ∧ Tab w' u T) ∧ Below W.heap.size W w' :=
  (enum32_any W vr vs g rels sub limit hr hs h1 h2).mono fun e w' (⟨⟨u, h5, h6⟩, h7⟩ : EnumPost g rels sub limit W e w') => by
    rw [h] at h5 h6
    exact ⟨⟨u, h5, h6⟩, h7⟩
/-- a box of a presentation is read -/
theorem box40 (W : World) (x y : Value) : ∀ V, Below (W.alloc (.cells #[x, y] 40)).heap.size (W.alloc (.cells #[x, y] 40)) V → (Instr.loadAt 40 (.pointer (some ⟨W.heap.size, 0, none⟩))).run Try.prog V = .ok (.agg #[x, y]) V ∧ V.cell? ⟨W.heap.size, 0, none⟩ = some x := fun V h => by
  have h1 := (h.block W.heap.size (by simp)).trans (heap_alloc_new W (.cells #[x, y] 40))
  exact ⟨load40 h1, (cells40 h1).1⟩
end Go.Proofs
