/- Rewriting in a Schreier system, plainly: products, tree words, telescoping (the law of RewriteBack); Schreier generators and rewriting, plainly: the law of RewriteBack; subst of chapter 21; The plain law of CosetTower; What RewriteBack meets, plainly; Rewrite where it succeeds: what it returns is its own (out of G0). -/
import Derived.Test.YtcfighimnkfmeaaRbCS23
import Derived.Test.YtcfighimnkfmeaaRbCS7
import Derived.Test.YtcfighimnkfmeaaRbCS19
import Derived.Test.YtcfighimnkfmeaaRbCS10
namespace Go.Proofs.Ct
section
variable {g : Nat} {t : Tb} {R : List W}
/-- the letters that one letter is rewritten to -/
def oneL (t : Tb) (R : List W) (g r : Nat) (x : Int) : W := if letN t R g r x ≠ 0 then [letN t R g r x] else []
/-- what a word is rewritten to, not yet reduced -/
def rl (t : Tb) (R : List W) (g : Nat) : Nat → W → W
  | _, [] => []
  | r, x :: w => oneL t R g r x ++ rl t R g (nx t r (col x)) w
theorem stepW_nx (r : Nat) (x : Int) : stepW t r x = nx t r (col x) := rfl
theorem rl_app (r : Nat) (u v : W) : rl t R g r (u ++ v) = rl t R g r u ++ rl t R g (actW (nx t) r u) v := by
  induction u generalizing r with
  | nil => rfl
  | cons x u ih =>
    show oneL t R g r x ++ rl t R g _ (u ++ v) = (oneL t R g r x ++ rl t R g _ u) ++ _
    rw [ih, List.append_assoc]
    rfl
theorem rl_one (r : Nat) (x : Int) : rl t R g r [x] = oneL t R g r x := List.append_nil _
theorem actW_one (r : Nat) (x : Int) : actW (nx t) r [x] = nx t r (col x) := rfl
theorem rwTo_rl (r : Nat) (w : W) : ∀ k, k ≤ w.length → rwTo t R g w r k = (actW (nx t) r (w.take k), rl t R g r (w.take k))
  | 0, _ => rfl
  | k + 1, h => by
    have ih := rwTo_rl r w k (by omega)
    have e : rwTo t R g w r (k + 1) = (stepW t (rwTo t R g w r k).1 (w.getD k 0), if letN t R g (rwTo t R g w r k).1 (w.getD k 0) ≠ 0 then (rwTo t R g w r k).2 ++ [letN t R g (rwTo t R g w r k).1 (w.getD k 0)] else (rwTo t R g w r k).2) := rfl
    rw [e, ih, take_snoc0 (by omega), actW_app, rl_app, rl_one]
    unfold oneL
    congr 1
    show (if letN t R g (actW (nx t) r (w.take k)) (w.getD k 0) ≠ 0 then rl t R g r (w.take k) ++ [letN t R g (actW (nx t) r (w.take k)) (w.getD k 0)] else rl t R g r (w.take k)) = _
    split
    · rfl
    · rw [List.append_nil]
theorem rwW_rl (r : Nat) (w : W) : rwW t R g r w = red (rl t R g r w) := by
  unfold rwW
  rw [rwTo_rl r w _ (Nat.le_refl _), List.take_length]
theorem oneL_nz (r : Nat) (x : Int) : Nz (oneL t R g r x) := by
  unfold oneL
  split
  · rename_i h
    exact Nz.one h
  · exact Nz.nil
theorem rl_nz (r : Nat) (w : W) : Nz (rl t R g r w) := by
  induction w generalizing r with
  | nil => exact Nz.nil
  | cons x w ih => exact (oneL_nz r x).app (ih _)
/-- rewriting respects products -/
theorem rw_mul (r : Nat) (u v : W) : rwW t R g r (u ++ v) = mulW (rwW t R g r u) (rwW t R g (actW (nx t) r u) v) := by
  unfold mulW
  rw [rwW_rl, rwW_rl, rwW_rl, rl_app, red_right _ (rl_nz _ _), red_left _ (rl_nz _ _)]
/-- there and back -/
theorem letN_back (ht : Full g t) {r : Nat} (hr : r < t.length) {x : Int} (hx : -(g : Int) ≤ x ∧ x ≤ g ∧ x ≠ 0) : letN t R g (nx t r (col x)) (-x) = -letN t R g r x := by
  have hc : col x < 2 * g := col_ltL hx
  obtain ⟨h1, h2⟩ := ht.nx hr hc
  have h3 := ht.good.eback hr hc h2
  unfold letN
  by_cases h : 0 < x
  · rw [if_neg (by omega : ¬ 0 < -x), if_pos h]
    have e : col (-x) = flp (col x) := by unfold col flp; repeat (first | omega | split)
    have e2 : stepW t (nx t r (col x)) (-x) = r := by
      rw [stepW_nx, e]
      have : t.at (nx t r (col x)) (flp (col x)) = (r : Int) := h3
      unfold nx at this ⊢
      rw [this]
      rfl
    rw [e2]
    congr 3
    omega
  · rw [if_pos (by omega : 0 < -x), if_neg h, Int.neg_neg, stepW_nx]
theorem oneL_back (ht : Full g t) {r : Nat} (hr : r < t.length) {x : Int} (hx : -(g : Int) ≤ x ∧ x ≤ g ∧ x ≠ 0) : oneL t R g (nx t r (col x)) (-x) = inv (oneL t R g r x) := by
  unfold oneL
  rw [letN_back ht hr hx]
  by_cases h : letN t R g r x = 0
  · rw [h]; rfl
  · rw [if_pos (by omega), if_pos h]; rfl
theorem nx_back (ht : Full g t) {r : Nat} (hr : r < t.length) {x : Int} (hx : -(g : Int) ≤ x ∧ x ≤ g ∧ x ≠ 0) : nx t (nx t r (col x)) (col (-x)) = r := by
  have hc : col x < 2 * g := col_ltL hx
  obtain ⟨h1, h2⟩ := ht.nx hr hc
  have h3 := ht.good.eback hr hc h2
  have e : col (-x) = flp (col x) := by unfold col flp; repeat (first | omega | split)
  have : t.at (nx t r (col x)) (flp (col x)) = (r : Int) := h3
  rw [e]
  unfold nx at this ⊢
  rw [this]
  rfl
theorem rl_inv (ht : Full g t) : ∀ {w : W} {r : Nat}, LOk g w → r < t.length → rl t R g (actW (nx t) r w) (inv w) = inv (rl t R g r w) ∧ actW (nx t) (actW (nx t) r w) (inv w) = r
  | [], r, _, _ => ⟨rfl, rfl⟩
  | x :: w, r, hw, hr => by
    obtain ⟨hx, hw'⟩ := hw.cons
    have h1 := (ht.nx hr (col_ltL hx)).1
    obtain ⟨i1, i2⟩ := rl_inv ht hw' h1
    have e : actW (nx t) r (x :: w) = actW (nx t) (nx t r (col x)) w := rfl
    rw [inv_cons, e, rl_app, actW_app, i1, i2, rl_one, actW_one, oneL_back ht hr hx, nx_back ht hr hx]
    refine ⟨?_, rfl⟩
    show _ = inv (oneL t R g r x ++ rl t R g (nx t r (col x)) w)
    rw [inv_app]
/-- rewriting respects free equality -/
theorem rl_red (ht : Full g t) {r : Nat} (hr : r < t.length) : ∀ (n : Nat) (u : W), u.length = n → LOk g u → Fe (rl t R g r (red u)) (rl t R g r u) ∧ actW (nx t) r (red u) = actW (nx t) r u
  | 0, u, hu, _ => by rw [List.length_eq_zero_iff.1 hu]; exact ⟨rfl, rfl⟩
  | n + 1, u, hu, hz => by
    rcases List.eq_nil_or_concat u with rfl | ⟨c, x, rfl⟩
    · cases hu
    · rw [List.concat_eq_append] at hu hz ⊢
      have hc : LOk g c := fun y hy => hz y (List.mem_append.2 (.inl hy))
      have hx : -(g : Int) ≤ x ∧ x ≤ g ∧ x ≠ 0 := hz x (by simp)
      obtain ⟨i1, i2⟩ := rl_red ht hr n c (by simpa using hu) hc
      rw [red_snoc, rl_app, actW_app, rl_one, actW_one]
      have hd : LOk g (red c) := fun y hy => hc y (red_mem hy)
      have plain : Fe (rl t R g r (red c ++ [x])) (rl t R g r c ++ oneL t R g (actW (nx t) r c) x) ∧ actW (nx t) r (red c ++ [x]) = nx t (actW (nx t) r c) (col x) := by
        rw [rl_app, actW_app, rl_one, actW_one, i2]
        exact ⟨i1.app Fe.rfl' (rl_nz _ _) (rl_nz _ _) (oneL_nz _ _) (oneL_nz _ _), rfl⟩
      rcases List.eq_nil_or_concat (red c) with hr' | ⟨d, y, hr'⟩
      · rw [hr'] at plain ⊢
        exact plain
      · rw [List.concat_eq_append] at hr'
        rw [hr'] at plain hd ⊢
        rw [push_snoc]
        by_cases ho : opp y x = true
        · rw [if_pos ho]
          obtain ⟨hy, rfl⟩ := opp_iff.1 ho
          have hd' : LOk g d := fun z hz => hd z (List.mem_append.2 (.inl hz))
          have hy' : -(g : Int) ≤ y ∧ y ≤ g ∧ y ≠ 0 := hd y (by simp)
          have hl := (ht.way hd' hr).1
          rw [List.append_assoc, rl_app, actW_app] at plain
          have e1 : rl t R g (actW (nx t) r d) ([y] ++ [-y]) = oneL t R g (actW (nx t) r d) y ++ inv (oneL t R g (actW (nx t) r d) y) := by
            rw [rl_app, rl_one, rl_one, actW_one, oneL_back ht hl hy']
          have e2 : actW (nx t) (actW (nx t) r d) ([y] ++ [-y]) = actW (nx t) r d := by
            rw [actW_app, actW_one, actW_one, nx_back ht hl hy']
          rw [e1, e2] at plain
          refine ⟨Fe.trans ?_ plain.1, plain.2⟩
          have := Fe.app (a := rl t R g r d) Fe.rfl' (fe_inv (oneL_nz (t := t) (R := R) (g := g) (actW (nx t) r d) y)).symm (rl_nz _ _) (rl_nz _ _) Nz.nil ((oneL_nz _ _).app (oneL_nz _ _).inv)
          rwa [List.append_nil] at this
        · rw [if_neg ho]
          exact plain
theorem rw_red (ht : Full g t) {r : Nat} (hr : r < t.length) {u v : W} (hu : LOk g u) (hv : LOk g v) (h : Fe u v) : rwW t R g r u = rwW t R g r v := by
  rw [rwW_rl, rwW_rl]
  have h1 := (rl_red (R := R) ht hr _ u rfl hu).1
  have h2 := (rl_red (R := R) ht hr _ v rfl hv).1
  have h3 : red u = red v := h
  rw [h3] at h1
  exact h1.symm.trans h2
/-- how a representative comes from an elder one -/
def Grown (g : Nat) (t : Tb) (out : List W) : Prop := ∀ j, j < out.length → (j = 0 ∧ out.getD j [] = []) ∨ ∃ i c, i < j ∧ c < 2 * g ∧ t.at i c = (j : Int) ∧ out.getD j [] = out.getD i [] ++ [letter c]
theorem Grown.col {out : List W} (h : Grown g t out) {r c : Nat} (hr : r < out.length) (hc : c < 2 * g) : Grown g t (repCol t r c out) := by
  unfold repCol
  split
  · rename_i he
    intro j hj
    rcases Nat.lt_or_ge j out.length with h1 | h1
    · have e : ∀ i, i < out.length → (out ++ [out.getD r [] ++ [letter c]]).getD i [] = out.getD i [] := fun i hi => by simp [List.getD_eq_getElem?_getD, List.getElem?_append_left hi]
      rw [e j h1]
      rcases h j h1 with h2 | ⟨i, c', h2, h3, h4, h5⟩
      · exact .inl h2
      · exact .inr ⟨i, c', h2, h3, h4, by rw [e i (by omega)]; exact h5⟩
    · obtain rfl : j = out.length := by simp at hj; omega
      refine .inr ⟨r, c, hr, hc, he, ?_⟩
      have e1 : (out ++ [out.getD r [] ++ [letter c]]).getD out.length [] = out.getD r [] ++ [letter c] := by simp [List.getD_eq_getElem?_getD]
      have e2 : (out ++ [out.getD r [] ++ [letter c]]).getD r [] = out.getD r [] := by simp [List.getD_eq_getElem?_getD, List.getElem?_append_left hr]
      rw [e1, e2]
  · exact h
theorem Grown.row {out : List W} (h : Grown g t out) {r : Nat} (hr : r < out.length) (hl : (t.row r).length = 2 * g) : Grown g t (repRow t r out) :=
  (foldTo_inv (p := fun _ out => Grown g t out ∧ r < out.length) ⟨h, hr⟩ _ fun c x hc ⟨h1, h2⟩ => ⟨h1.col h2 (by omega), Nat.lt_of_lt_of_le h2 (repCol_len r c x)⟩).1
theorem reps_grown (h : Full g t) (hs : std t 0 = some t) : Grown g t (reps t) := by
  have hS := std_iff hs
  have key : ∀ r, r ≤ t.length → Grown g t (foldTo (repRow t) r [[]]) := fun r => by
    induction r with
    | zero =>
      intro _ j hj
      obtain rfl : j = 0 := by simp [foldTo] at hj; omega
      exact .inl ⟨rfl, rfl⟩
    | succ r ih =>
      intro hr
      obtain ⟨m, h1, -, h2⟩ := rep_at h.good hS r (by omega)
      exact (ih (by omega)).row (by rw [h2.ol]; exact h1 (by omega)) (h.good.len r (by omega))
  exact key t.length (Nat.le_refl _)
/-- the edge by which a representative came is in the tree -/
theorem oneL_tree (ht : Full g t) {i c j : Nat} (hi : i < t.length) (hc : c < 2 * g) (he : t.at i c = (j : Int)) (hR : R.getD j [] = R.getD i [] ++ [letter c]) : oneL t R g i (letter c) = [] := by
  have hj : nx t i c = j := by unfold nx; rw [he]; rfl
  have hl := letter_range hc
  have z : letN t R g i (letter c) = 0 := by
    unfold letN
    by_cases h : c % 2 = 1
    · have e : letter c = -((c / 2 : Nat) + 1) := by unfold letter; rw [if_pos h]
      rw [if_neg (by omega), stepW_nx, col_letter, hj]
      have e2 : (-letter c - 1).toNat = c / 2 := by omega
      rw [e2]
      have hn : nt t R j (c / 2) = false := by
        have hd : dest t j (c / 2) = i := by
          have h3 := ht.good.eback hi hc he
          have e3 : flp c = 2 * (c / 2) := by unfold flp; rw [if_neg (by omega)]; omega
          unfold dest
          have h4 : t.at j (flp c) = (i : Int) := h3
          rw [e3] at h4
          rw [h4]
          rfl
        unfold nt
        rw [hd, hR, e]
        simp
      unfold number
      rw [if_neg (by simp [hn])]
      rfl
    · have e : letter c = (c / 2 : Nat) + 1 := by unfold letter; rw [if_neg h]
      rw [if_pos (by omega)]
      have e2 : (letter c - 1).toNat = c / 2 := by omega
      rw [e2]
      have hn : nt t R i (c / 2) = false := by
        have hd : dest t i (c / 2) = j := by
          unfold dest
          rw [show 2 * (c / 2) = c by omega, he]
          rfl
        unfold nt
        rw [hd, hR, e]
        simp
      unfold number
      rw [if_neg (by simp [hn])]
  unfold oneL
  rw [if_neg (by simpa using z)]
/-- a representative is rewritten to nothing -/
theorem rl_rep (ht : Full g t) (hs : std t 0 = some t) : ∀ j, j < t.length → rl t (reps t) g 0 ((reps t).getD j []) = [] ∧ actW (nx t) 0 ((reps t).getD j []) = j := by
  intro j
  induction j using Nat.strongRecOn with
  | _ j ih =>
    intro hj
    have hlen := reps_len ht hs
    rcases reps_grown ht hs j (by omega) with ⟨rfl, h2⟩ | ⟨i, c, h1, h2, h3, h4⟩
    · rw [h2]
      exact ⟨rfl, rfl⟩
    · obtain ⟨i1, i2⟩ := ih i h1 (by omega)
      rw [h4, rl_app, actW_app, i1, i2, rl_one, actW_one, col_letter, oneL_tree ht (by omega) h2 h3 h4]
      refine ⟨rfl, ?_⟩
      unfold nx
      rw [h3]
      rfl
/-- the word that a word in Schreier generators names, not yet reduced -/
def word1 (G : List W) (x : Int) : W := if 0 < x then G.getD (x - 1).toNat [] else inv (G.getD (-x - 1).toNat [])
def wordS (G : List W) (w : W) : W := w.flatMap (word1 G)
theorem wordS_app (G : List W) (u v : W) : wordS G (u ++ v) = wordS G u ++ wordS G v := List.flatMap_append
theorem wordS_one (G : List W) (x : Int) : wordS G [x] = word1 G x := List.append_nil _
theorem wordS_nz {G : List W} (hG : ∀ j, Nz (G.getD j [])) (w : W) : Nz (wordS G w) := fun y hy => by
  obtain ⟨x, -, h⟩ := List.mem_flatMap.1 hy
  unfold word1 at h
  split at h
  · exact hG _ y h
  · exact (hG _).inv y h
theorem word1_neg (G : List W) {x : Int} (hx : x ≠ 0) : word1 G (-x) = inv (word1 G x) := by
  unfold word1
  by_cases h : 0 < x
  · rw [if_neg (by omega), if_pos h, Int.neg_neg]
  · rw [if_pos (by omega), if_neg h, inv_inv]
theorem wordS_inv (G : List W) : ∀ {w : W}, Nz w → wordS G (inv w) = inv (wordS G w)
  | [], _ => rfl
  | x :: w, h => by
    have hx : x ≠ 0 := h x (by simp)
    rw [inv_cons, wordS_app, wordS_inv G (fun y hy => h y (by simp [hy])), wordS_one, word1_neg G hx]
    show _ = inv (wordS G ([x] ++ w))
    rw [wordS_app, wordS_one, inv_app]
theorem wordS_red {G : List W} (hG : ∀ j, Nz (G.getD j [])) : ∀ (n : Nat) (u : W), u.length = n → Nz u → Fe (wordS G (red u)) (wordS G u)
  | 0, u, hu, _ => by rw [List.length_eq_zero_iff.1 hu]; exact rfl
  | n + 1, u, hu, hz => by
    rcases List.eq_nil_or_concat u with rfl | ⟨c, x, rfl⟩
    · cases hu
    · rw [List.concat_eq_append] at hu hz ⊢
      have ih := wordS_red hG n c (by simpa using hu) hz.left
      have plain : Fe (wordS G (red c ++ [x])) (wordS G (c ++ [x])) := by
        rw [wordS_app, wordS_app]
        exact ih.app Fe.rfl' (wordS_nz hG _) (wordS_nz hG _) (wordS_nz hG _) (wordS_nz hG _)
      rw [red_snoc]
      rcases List.eq_nil_or_concat (red c) with hr' | ⟨d, y, hr'⟩
      · rw [hr'] at plain ⊢
        exact plain
      · rw [List.concat_eq_append] at hr'
        rw [hr'] at plain ⊢
        rw [push_snoc]
        by_cases ho : opp y x = true
        · rw [if_pos ho]
          obtain ⟨hy, rfl⟩ := opp_iff.1 ho
          refine Fe.trans ?_ plain
          rw [List.append_assoc, wordS_app, wordS_app G [y], wordS_one, wordS_one, word1_neg G hy]
          have hw : Nz (word1 G y) := by have := wordS_nz hG [y]; rwa [wordS_one] at this
          have := Fe.app (a := wordS G d) Fe.rfl' (fe_inv hw).symm (wordS_nz hG _) (wordS_nz hG _) Nz.nil (hw.app hw.inv)
          rwa [List.append_nil] at this
        · rw [if_neg ho]
          exact plain
/-- the product as the program makes it -/
def substTo (G : List W) (w : W) (k : Nat) : W := foldTo (fun k out => if 0 < w.getD k 0 then mulW out (G.getD (w.getD k 0 - 1).toNat []) else mulW out (invW (G.getD (-(w.getD k 0) - 1).toNat []))) k []
def substW (G : List W) (w : W) : W := substTo G w w.length
theorem substTo_red {G : List W} (hG : ∀ j, Nz (G.getD j [])) (w : W) : ∀ k, k ≤ w.length → substTo G w k = red (wordS G (w.take k))
  | 0, _ => rfl
  | k + 1, h => by
    have ih := substTo_red hG w k (by omega)
    have e : substTo G w (k + 1) = if 0 < w.getD k 0 then mulW (substTo G w k) (G.getD (w.getD k 0 - 1).toNat []) else mulW (substTo G w k) (invW (G.getD (-(w.getD k 0) - 1).toNat [])) := rfl
    rw [e, ih, take_snoc0 (by omega), wordS_app, wordS_one]
    unfold word1 mulW invW
    split
    · rw [red_left _ (wordS_nz hG _)]
    · rw [red_right _ (hG _).inv, red_left _ (wordS_nz hG _)]
theorem substW_red {G : List W} (hG : ∀ j, Nz (G.getD j [])) (w : W) : substW G w = red (wordS G w) := by
  unfold substW
  rw [substTo_red hG w _ (Nat.le_refl _), List.take_length]
end
end Go.Proofs.Ct
namespace Go.Proofs.Ct
section
variable {g : Nat} {t : Tb} {R : List W}
theorem pairRow_nodup (gens r : Nat) (h : (pairTo t R gens r).Nodup) : ∀ k, (pairRow t R r k (pairTo t R gens r)).Nodup
  | 0 => h
  | k + 1 => by
    have ih := pairRow_nodup gens r h k
    rw [pairRow_succ]
    split
    · refine List.nodup_append.2 ⟨ih, by simp, fun a ha b hb => ?_⟩
      rw [List.mem_singleton] at hb
      subst hb
      intro e
      subst e
      exact pair_new t R gens r k ha
    · exact ih
theorem pairTo_nodup (gens : Nat) : ∀ r, (pairTo t R gens r).Nodup
  | 0 => List.nodup_nil
  | r + 1 => by rw [pairTo_succ]; exact pairRow_nodup gens r (pairTo_nodup gens r) gens
/-- the words of the Schreier generators -/
def gensW (t : Tb) (R : List W) (g : Nat) : List W := (pairs t R g).map (schr t R)
theorem length_gensW : (gensW t R g).length = (pairs t R g).length := by simp [gensW]
theorem gensW_get {i : Nat} (h : i < (pairs t R g).length) : (gensW t R g).getD i [] = schr t R ((pairs t R g).getD i (0, 0)) := by
  unfold gensW
  rw [List.getD_eq_getElem?_getD, List.getElem?_map, List.getD_eq_getElem?_getD, List.getElem?_eq_getElem h]
  rfl
theorem pairs_get {i : Nat} (h : i < (pairs t R g).length) : ((pairs t R g).getD i (0, 0)).1 < t.length ∧ ((pairs t R g).getD i (0, 0)).2 < g ∧ nt t R ((pairs t R g).getD i (0, 0)).1 ((pairs t R g).getD i (0, 0)).2 = true := by
  have := List.getElem_mem h
  rw [List.getD_eq_getElem?_getD, List.getElem?_eq_getElem h]
  exact mem_pairTo this
theorem dest_nx (r h : Nat) : dest t r h = nx t r (col ((h + 1 : Nat) : Int)) := by
  unfold dest nx
  congr 2
  unfold col
  rw [if_pos (by omega)]
  omega
theorem gen_ok {g h : Nat} (hh : h < g) : -(g : Int) ≤ ((h + 1 : Nat) : Int) ∧ ((h + 1 : Nat) : Int) ≤ g ∧ ((h + 1 : Nat) : Int) ≠ 0 := by omega
theorem schr_nz (hR : ∀ j, LOk g (R.getD j [])) {r h : Nat} (_hh : h < g) : Nz (R.getD r [] ++ [((h + 1 : Nat) : Int)]) := (hR r).nz.app (Nz.one (by omega))
theorem schr_fe (hR : ∀ j, LOk g (R.getD j [])) {r h : Nat} (hh : h < g) : Fe (schr t R (r, h)) (R.getD r [] ++ [((h + 1 : Nat) : Int)] ++ inv (R.getD (nx t r (col ((h + 1 : Nat) : Int))) [])) := by
  unfold schr
  show Fe (mulW _ (invW (R.getD (dest t r h) []))) _
  rw [dest_nx]
  have hn := (hR (nx t r (col ((h + 1 : Nat) : Int)))).nz
  exact (mulW_fe _ _ (schr_nz hR hh) hn.inv.red).trans ((Fe.rfl').app (invW_fe _ hn) (schr_nz hR hh) (schr_nz hR hh) hn.inv.red hn.inv)
theorem schr_ok (hR : ∀ j, LOk g (R.getD j [])) {r h : Nat} (hh : h < g) : LOk g (schr t R (r, h)) := fun x hx => by
  have h1 := red_mem hx
  rcases List.mem_append.1 h1 with h2 | h2
  · rcases List.mem_append.1 h2 with h3 | h3
    · exact hR r x h3
    · rw [List.mem_singleton.1 h3]
      exact gen_ok hh
  · exact (hR _).inv x (red_mem h2)
theorem gensW_ok (hR : ∀ j, LOk g (R.getD j [])) (i : Nat) : LOk g ((gensW t R g).getD i []) := by
  rcases Nat.lt_or_ge i (pairs t R g).length with h | h
  · rw [gensW_get h]
    exact schr_ok hR (pairs_get h).2.1
  · rw [List.getD_eq_getElem?_getD, List.getElem?_eq_none (by rw [length_gensW]; exact h)]
    exact fun x hx => by cases hx
/-- a letter and what it is rewritten to -/
theorem oneL_pos (_ht : Full g t) (hR : ∀ j, LOk g (R.getD j [])) {r h : Nat} (hr : r < t.length) (hh : h < g) :
    Fe (wordS (gensW t R g) (oneL t R g r ((h + 1 : Nat) : Int))) (R.getD r [] ++ [((h + 1 : Nat) : Int)] ++ inv (R.getD (nx t r (col ((h + 1 : Nat) : Int))) [])) := by
  have hx := gen_ok hh
  have hN : letN t R g r ((h + 1 : Nat) : Int) = number t R g r h := by
    unfold letN
    rw [if_pos (by omega)]
    congr 1
    omega
  have hz := (hR (nx t r (col ((h + 1 : Nat) : Int)))).nz
  have hzr := (hR r).nz
  by_cases hn : nt t R r h = true
  · have hm : (r, h) ∈ pairs t R g := by
      have hpre : pairRow t R r (h + 1) (pairTo t R g r) <+: pairs t R g := (pairRow_mono t R r (by omega : h + 1 ≤ g) _).trans (pairTo_mono t R g (by omega : r + 1 ≤ t.length))
      rw [pairRow_succ, if_pos hn] at hpre
      exact hpre.subset (by simp)
    have hp := place_number (t := t) (R := R) (gens := g) (n := t.length) hr hh
    have hp2 : placeP (pairs t R g) r h = ((pairs t R g).idxOf (r, h) : Int) + 1 := if_pos hm
    have hi := List.idxOf_lt_length_of_mem hm
    have hg : (pairs t R g).getD ((pairs t R g).idxOf (r, h)) (0, 0) = (r, h) := by
      rw [List.getD_eq_getElem?_getD, List.getElem?_eq_getElem hi, List.getElem_idxOf hi]
      rfl
    unfold oneL
    rw [hN, ← hp]
    show Fe (wordS _ (if placeP (pairs t R g) r h ≠ 0 then [placeP (pairs t R g) r h] else [])) _
    rw [hp2, if_pos (by omega), wordS_one]
    unfold word1
    rw [if_pos (by omega), show (((pairs t R g).idxOf (r, h) : Int) + 1 - 1).toNat = (pairs t R g).idxOf (r, h) by omega, gensW_get hi, hg]
    exact schr_fe hR hh
  · have hz0 : number t R g r h = 0 := by unfold number; rw [if_neg hn]
    unfold oneL
    rw [hN, hz0, if_neg (by simp)]
    show Fe [] _
    refine Fe.symm ?_
    have hn' : nt t R r h = false := by simpa using hn
    unfold nt at hn'
    rw [dest_nx] at hn'
    simp only [Bool.and_eq_false_iff, Bool.not_eq_false', decide_eq_true_eq] at hn'
    rcases hn' with e | e
    · rw [← e]
      exact fe_inv hz
    · rw [e]
      have e2 : R.getD (nx t r (col ((h + 1 : Nat) : Int))) [] ++ [-((h + 1 : Nat) : Int)] ++ [((h + 1 : Nat) : Int)] = R.getD (nx t r (col ((h + 1 : Nat) : Int))) [] ++ [-((h + 1 : Nat) : Int), -(-((h + 1 : Nat) : Int))] := by simp
      rw [e2]
      have h1 := Fe.app (a := R.getD (nx t r (col ((h + 1 : Nat) : Int))) []) Fe.rfl' (fe_pair (x := -((h + 1 : Nat) : Int)) (by omega)) hz hz (fun y hy => by simp at hy; omega) Nz.nil
      rw [List.append_nil] at h1
      exact (h1.app Fe.rfl' (hz.app (fun y hy => by simp at hy; omega)) hz hz.inv hz.inv).trans (fe_inv hz)
theorem oneL_fe (ht : Full g t) (hR : ∀ j, LOk g (R.getD j [])) {r : Nat} (hr : r < t.length) {x : Int} (hx : -(g : Int) ≤ x ∧ x ≤ g ∧ x ≠ 0) :
    Fe (wordS (gensW t R g) (oneL t R g r x)) (R.getD r [] ++ [x] ++ inv (R.getD (nx t r (col x)) [])) := by
  by_cases h : 0 < x
  · obtain ⟨h', rfl⟩ : ∃ h' : Nat, x = ((h' + 1 : Nat) : Int) := ⟨(x - 1).toNat, by omega⟩
    exact oneL_pos ht hR hr (by omega)
  · obtain ⟨h', e⟩ : ∃ h' : Nat, -x = ((h' + 1 : Nat) : Int) := ⟨(-x - 1).toNat, by omega⟩
    have hs := (ht.nx hr (col_ltL hx)).1
    have h1 := oneL_back (R := R) ht hs (x := -x) (by omega)
    rw [Int.neg_neg, nx_back ht hr hx] at h1
    rw [h1, wordS_inv _ (oneL_nz _ _)]
    have h2 := oneL_pos (R := R) ht hR hs (h := h') (by omega)
    rw [← e, nx_back ht hr hx] at h2
    have hG : ∀ j, Nz ((gensW t R g).getD j []) := fun j => (gensW_ok hR j).nz
    have h3 := h2.inv (wordS_nz hG _) ((((hR _).nz.app (Nz.one (by omega))).app (hR _).nz.inv))
    rw [inv_app, inv_app, inv_inv, show inv [-x] = [x] by simp [inv], ← List.append_assoc] at h3
    exact h3
/-- telescoping -/
theorem rl_fe (ht : Full g t) (hR : ∀ j, LOk g (R.getD j [])) : ∀ {w : W} {r : Nat}, LOk g w → r < t.length → Fe (wordS (gensW t R g) (rl t R g r w)) (R.getD r [] ++ w ++ inv (R.getD (actW (nx t) r w) []))
  | [], r, _, _ => by
    rw [List.append_nil]
    exact (fe_inv (hR r).nz).symm
  | x :: w, r, hw, hr => by
    obtain ⟨hx, hw'⟩ := hw.cons
    have hs := (ht.nx hr (col_ltL hx)).1
    have hG : ∀ j, Nz ((gensW t R g).getD j []) := fun j => (gensW_ok hR j).nz
    have i1 := oneL_fe ht hR hr hx
    have i2 := rl_fe ht hR hw' hs
    show Fe (wordS _ (oneL t R g r x ++ rl t R g _ w)) (_ ++ inv (R.getD (actW (nx t) (nx t r (col x)) w) []))
    rw [wordS_app]
    generalize nx t r (col x) = s at *
    generalize actW (nx t) s w = e at *
    have ha := (hR r).nz
    have hb := (hR s).nz
    have hc := (hR e).nz
    have hX : Nz [x] := Nz.one hx.2.2
    have hW := hw'.nz
    refine (i1.app i2 (wordS_nz hG _) ((ha.app hX).app hb.inv) (wordS_nz hG _) ((hb.app hW).app hc.inv)).trans ?_
    have e1 : R.getD r [] ++ [x] ++ inv (R.getD s []) ++ (R.getD s [] ++ w ++ inv (R.getD e [])) = (R.getD r [] ++ [x]) ++ (inv (R.getD s []) ++ R.getD s []) ++ (w ++ inv (R.getD e [])) := by simp
    have e2 : R.getD r [] ++ x :: w ++ inv (R.getD e []) = (R.getD r [] ++ [x]) ++ [] ++ (w ++ inv (R.getD e [])) := by simp
    rw [e1, e2]
    exact ((Fe.rfl').app (fe_inv' hb) (ha.app hX) (ha.app hX) (hb.inv.app hb) Nz.nil).app Fe.rfl' ((ha.app hX).app (hb.inv.app hb)) ((ha.app hX).app Nz.nil) (hW.app hc.inv) (hW.app hc.inv)
theorem placeOf {i : Nat} (h : i < (pairs t R g).length) : (pairs t R g).idxOf ((pairs t R g).getD i (0, 0)) = i := by
  rw [List.getD_eq_getElem?_getD, List.getElem?_eq_getElem h]
  exact (pairTo_nodup g t.length).idxOf_getElem i h
/-- the letters of what a word is rewritten to name generators -/
theorem letN_bd {r : Nat} (ht : Full g t) (hr : r < t.length) {x : Int} (hx : -(g : Int) ≤ x ∧ x ≤ g ∧ x ≠ 0) : -((pairs t R g).length : Int) ≤ letN t R g r x ∧ letN t R g r x ≤ (pairs t R g).length := by
  have key : ∀ r, r < t.length → ∀ h, h < g → 0 ≤ number t R g r h ∧ number t R g r h ≤ (pairs t R g).length := fun r hr h hh => by
    have hp := place_number (t := t) (R := R) (gens := g) (n := t.length) hr hh
    rw [← hp]
    show 0 ≤ placeP (pairs t R g) r h ∧ placeP (pairs t R g) r h ≤ _
    unfold placeP
    split
    · rename_i hm
      have := List.idxOf_lt_length_of_mem hm
      omega
    · omega
  unfold letN
  split
  · have := key r hr (x - 1).toNat (by omega)
    omega
  · have := key (stepW t r x) (ht.nx hr (col_ltL hx)).1 (-x - 1).toNat (by omega)
    omega
theorem rl_bd (ht : Full g t) : ∀ {w : W} {r : Nat}, LOk g w → r < t.length → LOk (pairs t R g).length (rl t R g r w)
  | [], _, _, _ => fun x hx => by cases hx
  | x :: w, r, hw, hr => fun z hz => by
    obtain ⟨hx, hw'⟩ := hw.cons
    rcases List.mem_append.1 hz with h | h
    · have hb := letN_bd (R := R) ht hr hx
      have hn := oneL_nz r x z h
      unfold oneL at h
      split at h
      · rw [List.mem_singleton.1 h] at hn ⊢
        exact ⟨hb.1, hb.2, hn⟩
      · cases h
    · exact rl_bd ht hw' (ht.nx hr (col_ltL hx)).1 z h
theorem rl_length : ∀ {w : W} {r : Nat}, (rl t R g r w).length ≤ w.length
  | [], _ => Nat.le_refl _
  | x :: w, r => by
    show (oneL t R g r x ++ rl t R g (nx t r (col x)) w).length ≤ w.length + 1
    have := rl_length (w := w) (r := nx t r (col x))
    have h1 : (oneL t R g r x).length ≤ 1 := by
      unfold oneL
      split <;> simp
    rw [List.length_append]
    omega
/-- what RewriteBack meets: u a word, x and y its parts -/
theorem back_gens (ht : Full g t) (hs : std t 0 = some t) {i : Nat} (h : i < (gensW t (reps t) g).length) : rwW t (reps t) g 0 ((gensW t (reps t) g).getD i []) = [((i + 1 : Nat) : Int)] := by
  rw [length_gensW] at h
  have hR := reps_ok ht
  obtain ⟨h1, h2, h3⟩ := pairs_get h
  have hpl := placeOf h
  rw [gensW_get h]
  generalize hp : (pairs t (reps t) g).getD i (0, 0) = p at *
  obtain ⟨r, k⟩ := p
  have hx := gen_ok (g := g) (h := k) h2
  have hd := (ht.nx h1 (col_ltL hx)).1
  have hA : LOk g ((reps t).getD r [] ++ [((k + 1 : Nat) : Int)] ++ inv ((reps t).getD (nx t r (col ((k + 1 : Nat) : Int))) [])) := ((hR r).app (fun z hz => by rw [List.mem_singleton.1 hz]; exact hx)).app (hR _).inv
  rw [rw_red ht ht.good.n1 (schr_ok hR h2) hA (schr_fe hR h2), rwW_rl, rl_app, rl_app, actW_app]
  obtain ⟨a1, a2⟩ := rl_rep ht hs r h1
  obtain ⟨b1, b2⟩ := rl_rep ht hs _ hd
  have hb := rl_inv (R := reps t) ht (hR (nx t r (col ((k + 1 : Nat) : Int)))) ht.good.n1
  rw [b1, b2] at hb
  rw [a1, a2, actW_one, hb.1, rl_one]
  have hN : letN t (reps t) g r ((k + 1 : Nat) : Int) = ((i + 1 : Nat) : Int) := by
    unfold letN
    rw [if_pos (by omega), show (((k + 1 : Nat) : Int) - 1).toNat = k by omega, ← place_number (t := t) (R := reps t) (gens := g) (n := t.length) h1 h2]
    show placeP (pairs t (reps t) g) r k = _
    have hm : (r, k) ∈ pairs t (reps t) g := by
      rw [← hp, List.getD_eq_getElem?_getD, List.getElem?_eq_getElem h]
      exact List.getElem_mem h
    unfold placeP
    rw [if_pos hm, hpl]
    omega
  unfold oneL
  rw [hN, if_pos (by omega)]
  rfl
theorem back_word (ht : Full g t) (hs : std t 0 = some t) {u : W} (hu : LOk g u) (he : actW (nx t) 0 u = 0) : substW (gensW t (reps t) g) (rwW t (reps t) g 0 u) = red u := by
  have hR := reps_ok ht
  have hG : ∀ j, Nz ((gensW t (reps t) g).getD j []) := fun j => (gensW_ok hR j).nz
  rw [substW_red hG, rwW_rl]
  have h1 := wordS_red hG _ _ rfl (rl_nz (t := t) (R := reps t) (g := g) 0 u)
  have h2 := rl_fe ht hR hu ht.good.n1
  have h0 : (reps t).getD 0 [] = [] := by
    rcases reps_grown ht hs 0 (by rw [reps_len ht hs]; exact ht.good.n1) with ⟨-, e⟩ | ⟨i, c, h, -⟩
    · exact e
    · exact absurd h (Nat.not_lt_zero _)
  rw [he, h0] at h2
  have e : ([] : W) ++ u ++ inv [] = u := by simp [inv]
  rw [e] at h2
  exact h1.trans h2
end
end Go.Proofs.Ct
namespace Go.Proofs
open Go.RowKit Go.Shelf Go.Proofs.Ct Go.Maps
theorem substTo_succ (G : List W) (z : W) (k : Nat) : substTo G z (k + 1) = if 0 < z.getD k 0 then mulW (substTo G z k) (G.getD (z.getD k 0 - 1).toNat []) else mulW (substTo G z k) (invW (G.getD (-(z.getD k 0) - 1).toNat [])) := rfl
theorem lok_red {g : Nat} {a : W} (h : LOk g a) : LOk g (red a) := fun x hx => h x (red_mem hx)
theorem substTo_lok {g : Nat} {G : List W} (hG : ∀ j, LOk g (G.getD j [])) (z : W) : ∀ k, LOk g (substTo G z k)
  | 0 => fun x hx => by cases hx
  | k + 1 => by
    have ih := substTo_lok hG z k
    rw [substTo_succ]
    split
    · exact lok_red (ih.app (hG _))
    · exact lok_red (ih.app (lok_red (hG _).inv))
theorem substTo_len {G : List W} {m : Nat} (hG : ∀ j, (G.getD j []).length ≤ m) (z : W) : ∀ k, (substTo G z k).length ≤ k * m
  | 0 => Nat.zero_le _
  | k + 1 => by
    have ih := substTo_len hG z k
    rw [substTo_succ, Nat.succ_mul]
    split
    · have h1 := red_length (substTo G z k ++ G.getD (z.getD k 0 - 1).toNat [])
      have h2 := hG (z.getD k 0 - 1).toNat
      rw [List.length_append] at h1
      unfold mulW
      omega
    · have h1 := red_length (substTo G z k ++ invW (G.getD (-(z.getD k 0) - 1).toNat []))
      have h2 := hG (-(z.getD k 0) - 1).toNat
      have h3 := red_length (inv (G.getD (-(z.getD k 0) - 1).toNat []))
      rw [length_inv] at h3
      rw [List.length_append] at h1
      unfold mulW
      unfold invW at *
      omega
theorem lok_mild {g : Nat} (hg : g ≤ 100000) {a : W} (h : LOk g a) : ∀ z ∈ a, Mild z := fun z hz => by
  have := h z hz
  unfold Mild
  omega
theorem lok_fitsU {g : Nat} (hg : g ≤ 100000) {a : W} (h : LOk g a) : Fits a := fun z hz => by
  have := h z hz
  omega
def SubstPost (x : W) (w : World) (e : Ending) (w' : World) : Prop := (∃ A c, e = .returned (.tuple #[.slice A x.length c, .bool true]) ∧ IntsAt w' (.slice A x.length c) x) ∧ Below w.heap.size w w'
set_option maxRecDepth 100000 in
set_option maxHeartbeats 1000000 in
theorem subst42_any (w : World) (vw vl : Value) (g : Nat) (z : W) (G : List W) (hg : g ≤ 16) (hz : IntsAt w vw z) (hG : Tab w vl G) (hok : LOk G.length z) (hzl : z.length ≤ 100) (hGo : ∀ j, LOk g (G.getD j [])) (hGl : ∀ j, (G.getD j []).length ≤ 100) (hgl : G.length ≤ 10000) :
    Calls Try.prog 42 #[vw, vl] w (SubstPost (substW G z) w) := by
  obtain ⟨Az, cz, rfl, hz1, hz2, hzc⟩ := hz.open_
  obtain ⟨Ag, cg, rfl, hg1, hg2, hgc⟩ := LAt.open_ hG
  have HZC := Lib.hid hzc
  have HGT := Lib.hid hG
  have HOK := Lib.hid hok
  have HGO := Lib.hid hGo
  have HGL := Lib.hid hGl
  have hz0 : (0 : Int) ≤ (z.length : Int) := Int.natCast_nonneg _
  have hz3 : (z.length : Int) ≤ 100 := by omega
  have hg0 : (0 : Int) ≤ (G.length : Int) := Int.natCast_nonneg _
  have hg3 : (G.length : Int) ≤ 10000 := by omega
  clear hz hG hok hGo hGl hz1 hz2 hg1 hg2 hzc hgc
  unfold SubstPost
  go_enter Try.func42, Try.ntmps42
  go_wp2_with fail
  go_loopw [6, 7] (fun so i wr => ∃ k : Nat, i = .int .i64 (k : Int) ∧ k ≤ z.length ∧ ∃ A n c, so = .slice A n c ∧ Hid (n = (substTo G z k).length) ∧ Hid (IntsAt wr so (substTo G z k)) ∧ Hid (Below w.heap.size w wr)) (fun _ i _ => z.length - (intOf i).toNat)
  case atStart => exact ⟨0, rfl, Nat.zero_le _, none, 0, 0, rfl, Lib.hid rfl, Lib.hid intsAt_nil, Lib.hid (Below.refl _ _)⟩
  case round =>
    obtain ⟨k, rfl, hk, Ao, no, co, rfl, HN, HI, HB⟩ := hrel
    have hk0 : (0 : Int) ≤ (k : Int) := Int.natCast_nonneg _
    by_cases hlt : k < z.length
    · have hlt' : (k : Int) < (z.length : Int) := by omega
      obtain ⟨bz, oz, rfl, hcz⟩ := HZC.out (by omega)
      have x1 : wr.cell? ⟨bz, oz + k, none⟩ = some (.int .i64 (z.getD k 0)) := (HB.out.cell (p := ⟨bz, oz + k, none⟩) (World.block_lt_of_cell? w _ (hcz k hlt))).trans (hcz k hlt)
      have hb := HOK.out.getD hlt
      have HS := Lib.hid (substTo_succ G z k)
      have HTR := Lib.hid (kept_tab.below HGT.out HB.out)
      have HO := Lib.hid (substTo_lok HGO.out z k)
      have hsl := substTo_len HGL.out z k
      have HSL : Hid ((substTo G z k).length ≤ 10000) := Lib.hid (by
        have : k * 100 ≤ 100 * 100 := Nat.mul_le_mul (by omega) (Nat.le_refl _)
        omega)
      have HNZ : Hid (0 < G.length) := Lib.hid (by omega)
      obtain ⟨At, ct, et, -, -, htc⟩ := LAt.open_ HTR.out
      obtain ⟨bg, og, rfl, hrow⟩ := (by obtain ⟨rfl, -, rfl⟩ := Value.slice.inj et; exact htc HNZ.out : ∃ b off, Ag = some ⟨b, off, none⟩ ∧ ∀ k, k < G.length → ∃ u, wr.cell? ⟨b, off + k, none⟩ = some u ∧ IntsAt wr u (G.getD k []))
      have HROW := Lib.hid hrow
      have d0 : (z.getD k 0 == 0) = false := by rw [beq_eq_false_iff_ne]; omega
      obtain ⟨hb1, hb2, hb3⟩ := hb
      clear hcz hrow htc et hsl
      by_cases hp : 0 < z.getD k 0
      · obtain ⟨m, hm⟩ : ∃ m : Nat, z.getD k 0 - 1 = (m : Int) := ⟨(z.getD k 0 - 1).toNat, by omega⟩
        have hml : m < G.length := by omega
        have hml' : (m : Int) < (G.length : Int) := by omega
        obtain ⟨u, hu, hiu⟩ := HROW.out m hml
        obtain ⟨Au, cu, rfl, -, -, -⟩ := hiu.open_
        have HM : Hid (Calls Try.prog 101 #[.slice Ao no co, .slice Au (G.getD m []).length cu] wr (RedPost (substTo G z k ++ G.getD m []) wr)) := Lib.hid (mul101_any wr _ _ _ _ HI.out hiu (lok_mild (by omega) HO.out) (lok_mild (by omega) (HGO.out m)) (by have := HSL.out; have := HGL.out m; omega))
        have HS' : Hid (substTo G z (k + 1) = red (substTo G z k ++ G.getD m [])) := Lib.hid (by rw [HS.out, if_pos hp, hm, Int.toNat_natCast]; rfl)
        have HF : Hid (Fits (substTo G z (k + 1))) := Lib.hid (lok_fitsU (g := g) (by omega) (substTo_lok HGO.out z (k + 1)))
        clear HS hiu HN HI HSL HNZ HROW HTR HO
        generalize z.getD k 0 = x at *
        unfold RedPost at HM
        generalize red (substTo G z k ++ G.getD m []) = Y at *
        generalize G.getD m [] = row at *
        have hm0 : (0 : Int) ≤ (m : Int) := Int.natCast_nonneg _
        go_wp2_with fail
        refine HM.out.mono ?_
        rintro e w5 ⟨A5, c5, rfl, ho, hb⟩
        have HI5 : Hid (IntsAt w5 (.slice A5 Y.length c5) (substTo G z (k + 1))) := Lib.hid (by
          have := HF.out
          rw [HS'.out] at this ⊢
          exact OwnI.ints ho this)
        have HN5 : Hid (Y.length = (substTo G z (k + 1)).length) := Lib.hid (by rw [HS'.out])
        have HB5 := Lib.hid (bl3 HB.out hb)
        clear ho hb
        go_wp2_with fail
        go_roundw
        case rel => exact ⟨k + 1, by go_num, by omega, A5, _, c5, rfl, HN5, HI5, HB5⟩
        case measure => simp [intOf]; omega
      · obtain ⟨m, hm⟩ : ∃ m : Nat, -(z.getD k 0) - 1 = (m : Int) := ⟨(-(z.getD k 0) - 1).toNat, by omega⟩
        have hml : m < G.length := by omega
        have hml' : (m : Int) < (G.length : Int) := by omega
        obtain ⟨u, hu, hiu⟩ := HROW.out m hml
        obtain ⟨Au, cu, rfl, -, -, -⟩ := hiu.open_
        have HV : Hid (Calls Try.prog 102 #[.slice Au (G.getD m []).length cu] wr (RedPost (inv (G.getD m [])) wr)) := Lib.hid (invert102_any wr _ _ hiu (lok_mild (by omega) (HGO.out m)) (by have := HGL.out m; omega))
        have HFI : Hid (Fits (red (inv (G.getD m []))) ∧ (∀ y ∈ red (inv (G.getD m [])), Mild y) ∧ (red (inv (G.getD m []))).length ≤ 100) := Lib.hid (by
          have h1 := lok_red (HGO.out m).inv
          have h2 := red_length (inv (G.getD m []))
          rw [length_inv] at h2
          exact ⟨lok_fitsU (by omega) h1, lok_mild (by omega) h1, Nat.le_trans h2 (HGL.out m)⟩)
        have HS' : Hid (substTo G z (k + 1) = red (substTo G z k ++ red (inv (G.getD m [])))) := Lib.hid (by rw [HS.out, if_neg hp, hm, Int.toNat_natCast]; rfl)
        have HF : Hid (Fits (substTo G z (k + 1))) := Lib.hid (lok_fitsU (g := g) (by omega) (substTo_lok HGO.out z (k + 1)))
        have hp' : ¬ 0 < z.getD k 0 := hp
        clear HS hiu HN HNZ HROW HTR hp
        generalize z.getD k 0 = x at *
        unfold RedPost at HV
        generalize red (inv (G.getD m [])) = V at *
        generalize G.getD m [] = row at *
        have hm0 : (0 : Int) ≤ (m : Int) := Int.natCast_nonneg _
        go_wp2_with fail
        refine HV.out.mono ?_
        rintro e w4 ⟨A4, c4, rfl, ho4, hb4⟩
        have HM : Hid (Calls Try.prog 101 #[.slice Ao no co, .slice A4 V.length c4] w4 (RedPost (substTo G z k ++ V) w4)) := Lib.hid (mul101_any w4 _ _ _ _ (kept_ints.below HI.out hb4) (OwnI.ints ho4 HFI.out.1) (lok_mild (by omega) HO.out) HFI.out.2.1 (by have := HSL.out; have := HFI.out.2.2; omega))
        have HB4 := Lib.hid (bl3 HB.out hb4)
        clear ho4 hb4 HI HSL HO
        unfold RedPost at HM
        generalize red (substTo G z k ++ V) = Y at *
        go_wp2_with fail
        refine HM.out.mono ?_
        rintro e w5 ⟨A5, c5, rfl, ho, hb⟩
        have HI5 : Hid (IntsAt w5 (.slice A5 Y.length c5) (substTo G z (k + 1))) := Lib.hid (by
          have := HF.out
          rw [HS'.out] at this ⊢
          exact OwnI.ints ho this)
        have HN5 : Hid (Y.length = (substTo G z (k + 1)).length) := Lib.hid (by rw [HS'.out])
        have HB5 := Lib.hid (bl3 HB4.out hb)
        clear ho hb
        go_wp2_with fail
        go_roundw
        case rel => exact ⟨k + 1, by go_num, by omega, A5, _, c5, rfl, HN5, HI5, HB5⟩
        case measure => simp [intOf]; omega
    · obtain rfl : k = z.length := by omega
      have HE : Hid ((∃ A c, Ending.returned (.tuple #[.slice Ao no co, .bool true]) = .returned (.tuple #[.slice A (substW G z).length c, .bool true]) ∧ IntsAt wr (.slice A (substW G z).length c) (substW G z)) ∧ Below w.heap.size w wr) := Lib.hid (by
        have h1 := HI.out
        have h2 := HN.out
        subst h2
        exact ⟨⟨Ao, co, rfl, h1⟩, HB.out⟩)
      go_wp2_with fail
      go_ret2
      exact HE.out
end Go.Proofs
namespace Go.Proofs
open Go.RowKit Go.Shelf Go.Proofs.Ct Go.Maps
section
variable {g : Nat} {rels sub : List W} {t u : Tb}
theorem traceE_good (h : Full g t) {r : Nat} (hr : r < t.length) {ws : W} (hw : LOk g ws) : traceE g t r ws = (((actW (nx t) r ws : Nat) : Int), true) := by
  have h1 : leads t r ws = ((actW (nx t) r ws : Nat) : Int) := leads_iff.2 (h.way hw hr).2
  unfold traceE
  rw [check_of_good h.good, if_neg (by simp), if_neg (by omega), Int.toNat_natCast, if_neg (by rw [letBad_ok hw]; simp), h1, if_neg (by omega)]
  simp
theorem repsE_full (h : Full g t) (hs : std t 0 = some t) : repsE g t = (reps t, 0) := by
  unfold repsE
  rw [check_of_good h.good, if_neg (by simp), if_pos hs]
end
theorem lok_word {g : Nat} (hg : 1 ≤ g) (l : List Int) : LOk g (wordOf g l) := fun y hy => by
  unfold wordOf at hy
  obtain ⟨z, -, rfl⟩ := List.mem_map.1 hy
  have h1 := Int.emod_lt_of_pos z (show (0 : Int) < ((2 * g : Nat) : Int) by omega)
  have h2 := Int.emod_nonneg z (show ((2 * g : Nat) : Int) ≠ 0 by omega)
  exact letter_range (by omega)
end Go.Proofs
namespace Go.Proofs
open Go.RowKit Go.Shelf Go.Proofs.Ct Go.Maps
theorem gensTo_W (t : Tb) (R : List W) (g : Nat) : gensTo t R (pairs t R g) (pairs t R g).length = gensW t R g := by
  apply List.ext_getElem
  · rw [length_gensTo, length_gensW]
  · intro i h1 h2
    rw [length_gensTo] at h1
    have e1 : (gensTo t R (pairs t R g) (pairs t R g).length)[i] = schr t R ((pairs t R g).getD i (0, 0)) := by simp [gensTo]
    rw [e1, ← gensW_get h1, List.getD_eq_getElem?_getD, List.getElem?_eq_getElem h2]
    rfl
section
variable {g : Nat} {t : Tb}
theorem gensE_good (h : Full g t) (hs : std t 0 = some t) (hl : t.length ≤ 40) (hg : g ≤ 16) : gensE g t = (gensW t (reps t) g, 0) := by
  have hp := pairs_length t (reps t) g
  have : t.length * g ≤ 40 * 16 := Nat.mul_le_mul hl hg
  unfold gensE
  rw [repsE_full h hs, if_neg (by simp), Int.toNat_natCast, if_neg (by omega), gensTo_W]
theorem schr_len (h : Full g t) (hs : std t 0 = some t) (i : Nat) : ((gensW t (reps t) g).getD i []).length ≤ 2 * t.length + 1 := by
  rcases Nat.lt_or_ge i (pairs t (reps t) g).length with hi | hi
  · rw [gensW_get hi]
    obtain ⟨h1, h2, -⟩ := pairs_get hi
    generalize (pairs t (reps t) g).getD i (0, 0) = p at *
    obtain ⟨r, k⟩ := p
    have hl := (reps_length h.good (std_iff hs)).2
    have a1 := hl r h1
    have hd : dest t r k < t.length := by
      rw [dest_nx]
      exact (h.nx h1 (col_ltL (gen_ok h2))).1
    have a2 := hl _ hd
    unfold schr mulW
    refine Nat.le_trans (red_length _) ?_
    rw [List.length_append, List.length_append]
    have a3 := red_length (inv ((reps t).getD (dest t r k) []))
    rw [length_inv] at a3
    show ((reps t).getD r []).length + 1 + (invW ((reps t).getD (dest t r k) [])).length ≤ _
    unfold invW
    have h1' : r < t.length := h1
    omega
  · rw [List.getD_eq_getElem?_getD, List.getElem?_eq_none (by rw [length_gensW]; exact hi)]
    exact Nat.zero_le _
theorem rw_ok (h : Full g t) {r : Nat} (hr : r < t.length) {w : W} (hw : LOk g w) : LOk (gensW t (reps t) g).length (rwW t (reps t) g r w) := by
  rw [length_gensW, rwW_rl]
  exact lok_red (rl_bd h hw hr)
theorem rw_len (r : Nat) (w : W) : (rwW t (reps t) g r w).length ≤ w.length := by
  rw [rwW_rl]
  exact Nat.le_trans (red_length _) rl_length
end
/-- what RewriteBack meets -/
theorem back_all (which : Int) (l k : List Int) : ∃ g : Nat, (givenP 4 which l).1 = (g : Int) ∧ 1 ≤ g ∧ g ≤ 3 ∧ Wds g (givenP 4 which l).2 6 60 ∧ Wds g (lawWords g 4 k) 4 12 ∧
    ∃ (T : Tb) (d1 k1 e1 : Int), enumE g (givenP 4 which l).2 (lawWords g 4 k) 300 = (T, (d1, k1), e1) ∧ (e1 = 12 ∨ e1 = 0) ∧ T.length ≤ 300 ∧ (e1 = 0 → Coset g (givenP 4 which l).2 (lawWords g 4 k) T) := by
  obtain ⟨g, h1, h2, h3, h4⟩ := given_wds 4 (by omega) which l
  have h5 := wds_law h2 4 k
  have hp := h4.pres ⟨h2, by omega⟩ (by omega) (by omega)
  refine ⟨g, h1, h2, h3, h4, h5, ?_⟩
  rcases enum_cases (lim := 300) ⟨h2, by omega⟩ hp h4.ok h5.ok (fun lim' a b => h5.good (by omega) (by omega) ⟨a, b⟩) (by omega) with c1 | ⟨t, d, q, c1⟩
  · exact ⟨_, _, _, _, c1, .inl rfl, Nat.zero_le _, fun h => by cases h⟩
  · exact ⟨_, _, _, _, c1.is 300 c1.room (by omega), .inr rfl, by have := c1.live; have := c1.most; have := c1.room; omega, fun _ => c1.coset⟩
end Go.Proofs
namespace Go.Proofs
open Go.RowKit Go.Shelf Go.Proofs.Ct Go.Maps
set_option maxRecDepth 100000 in
set_option maxHeartbeats 2000000 in
theorem rewrite20_own (w : World) (v u : Value) (g r : Nat) (t : Tb) (ws : List Int) (ht : Tab w v t) (hu : IntsAt w u ws) (hg : TGood g t) (hstd : std t 0 = some t) (hr : r < t.length) (hws : LetsOk g ws) (hl : ws.length ≤ 4000) :
    Calls Try.prog 20 #[.int .i64 (g : Int), v, .int .i64 (r : Int), u] w fun e w' => (∃ A c, e = .returned (.tuple #[.slice A (rwW t (reps t) g r ws).length c, .int .i64 0]) ∧ IntsAt w' (.slice A (rwW t (reps t) g r ws).length c) (rwW t (reps t) g r ws) ∧ OwnI w.heap.size w' (.slice A (rwW t (reps t) g r ws).length c) (rwW t (reps t) g r ws)) ∧ Below w.heap.size w w' := by
  have hb0 : Below w.heap.size w (w.alloc (.cells #[.int .i64 (g : Int)] 3)) := (Below.refl _ _).alloc (Nat.le_refl _) _
  have HC := Lib.hid (of68_good (w.alloc (.cells #[.int .i64 (g : Int)] 3)) v g t (kept_tab.below ht hb0) hg hstd)
  have hg16 := hg.g16
  have hnew0 := heap_alloc_new w (.cells #[.int .i64 (g : Int)] 3)
  have hlt0 : w.heap.size < (w.alloc (.cells #[.int .i64 (g : Int)] 3)).heap.size := by simp
  have hn : ws.any (letBad g) = false := by
    rw [List.any_eq_false]
    intro x hx
    have := hws x hx
    unfold letBad
    simp
    omega
  have hany : ∀ W, Below (w.alloc (.cells #[.int .i64 (g : Int)] 3)).heap.size (w.alloc (.cells #[.int .i64 (g : Int)] 3)) W →
      Calls Try.prog 74 #[u, .func (.func 75) #[] #[.pointer (some ⟨w.heap.size, 0, none⟩)]] W fun e w' => e = .returned (.bool false) ∧ ∃ q, w' = W.drewN q := fun W hb => by
    rw [← hn]
    exact has74_any 75 _ _ _ W eg75 (pred75 g w.heap.size W hg16 (cell_of1 ((hb.block _ hlt0).trans hnew0)).1) u ws (kept_ints.below (kept_ints.below hu hb0) hb) (fun x hx => hu.2 x hx)
  have HANY := Lib.hid hany
  have HB0 := Lib.hid hb0
  have HG := Lib.hid hg
  have HSTD := Lib.hid (std_iff hstd)
  have HU := Lib.hid hu
  have HWS := Lib.hid hws
  have HR := Lib.hid hr
  obtain ⟨A, c, rfl⟩ := Tab.form ht
  obtain ⟨Au, cu, rfl, hu1, hu2, -⟩ := hu.open_
  have hr0 : (0 : Int) ≤ (r : Int) := Int.natCast_nonneg _
  have hr1 : (r : Int) < (t.length : Int) := by omega
  have hl' : (ws.length : Int) ≤ 4000 := by omega
  have hlen : ws.length ≤ 100000 := by omega
  have hn2 := hg.n2
  have hn2' : (t.length : Int) ≤ 20000 := by omega
  clear ht hstd hg hu hb0 hnew0 hlt0 hany hn hws
  go_enter Try.func20, Try.ntmps20
  go_wp2_with (first
    | (go_at_call 68; (refine HC.out.mono ?_); rintro e w1 ⟨⟨vr, bm, vl, rfl, hS⟩, hb⟩
       obtain ⟨Ar, cr, rfl⟩ := Tab.form hS.reps
       obtain ⟨base, hl⟩ := hS.list
       obtain ⟨Al, cl, rfl⟩ := OwnP.form hl
       have HN1 := Lib.hid (heap_alloc_new w1 (.cells zero95 95))
       have HB1 := Lib.hid hb
       have HS := Lib.hid hS
       clear hb hS hl)
    | ((with_reducible refine wpList_sel 10 ?_); refine wpList_val rfl (r_alloc95 rfl) ?_; refine wpList_skip rfl (r_store95 (.tmp 10) (.tmp 16) rfl w1.heap.size zero95 #[.slice A t.length c, .slice Ar (reps t).length cr, .map (some bm), .slice Al (pairs t (reps t) g).length cl] rfl rfl HN1.out rfl rfl (one95 _ _ _ _ _ _ _ _ _ _)) ?_)
    | (go_at_call 74; (refine (HANY.out _ (below_boxed HB1.out _ _)).mono ?_); rintro e w2 ⟨rfl, q, rfl⟩)
    | ((with_reducible refine wpList_sel 38 ?_); refine wpList_val rfl (r_load95 (.tmp 10) w1.heap.size (.slice A t.length c) (.slice Ar (reps t).length cr) (.map (some bm)) (.slice Al (pairs t (reps t) g).length cl) rfl rfl (setRow_heap (w1.alloc (.cells zero95 95)) w1.heap.size zero95 _ 95 (0, 0) HN1.out)) ?_)
    | (go_at_call 76; (refine (callsIn_wide.1 (rewrite76_in 0 _ _ _ bm _ _ g t (reps t) r ws (HS.out.below (below_drewN (below_boxed (Below.refl _ _) _ _) _)) HG.out HSTD.out HR.out (kept_ints.below HU.out (below_drewN (HB0.out.trans ((below_boxed HB1.out _ _).mono HB0.out.size)) _)) HWS.out hlen)).mono ?_); rintro e w3 ⟨A', c', rfl, ho, hb⟩
       have HO := Lib.hid (owns_base ho (below_drewN (HB0.out.trans ((below_boxed HB1.out _ _).mono HB0.out.size)) q).size)
       have HB3 := Lib.hid ((below_drewN (HB0.out.trans ((below_boxed HB1.out _ _).mono HB0.out.size)) q).trans (hb.mono (below_drewN (HB0.out.trans ((below_boxed HB1.out _ _).mono HB0.out.size)) q).size))
       clear ho hb))
  go_ret2
  exact ⟨⟨_, _, rfl, OwnI.ints HO.out (Mild.fits (rwW_mild HG.out HSTD.out (reps t) HWS.out HR.out)), HO.out⟩, HB3.out⟩
end Go.Proofs
