/- Schreier generators, plainly: how many there are, and that they generate the subgroup (the law of RewriteGenerates); The presentation of a subgroup, plainly: its order times the index is the order of the group (the law of RewriteOrders); What RewriteGenerates, RewriteOrders and TopPresent meet, plainly; The walk of RewriteOrders; Arguments opened: lists of numbers, tables, presentations; Closed facts of the program (A); Closed facts of the program (B); Closed facts of the program (C); Closed facts of the program (D); The closed facts of a statement, one by one. -/
import Derived.Test.YtmpnengjboabcaaGreatRoCS28
import Derived.Test.YtmpnengjboabcaaGreatRoCS27
import Derived.Test.YtmpnengjboabcaaGreatRoCS1
import Derived.Test.YtmpnengjboabcaaGreatRoCS6
import Derived.Test.YtmpnengjboabcaaGreatRoCS23
import Derived.Test.YtmpnengjboabcaaGreatRoCS8
import Derived.Test.YtmpnengjboabcaaGreatRoCS12
import Derived.Test.YtmpnengjboabcaaGreatRoCS13
import Derived.Test.YtmpnengjboabcaaGreatRoCS3
import Derived.ProofKit
import Derived.Deep.Slices
import Derived.Deep.Strs
import Derived.Test.YtmpnengjboabcaaGreatRows
import Derived.Test.YtmpnengjboabcaaGreatChecked
import Derived.OpenShut
import Derived.JoinedOf
namespace Go.Proofs.Ct
section
variable {g : Nat} {α : Type} {D : α → Prop} {act : α → Nat → α} {rels : List W}
theorem lok_redP {a : W} (h : LOk g a) : LOk g (red a) := fun x hx => h x (red_mem hx)
theorem Mdl.back (h : Mdl g rels D act) {p : α} (hp : D p) {x : Int} (hx : -(g : Int) ≤ x ∧ x ≤ g ∧ x ≠ 0) : act (act p (col x)) (col (-x)) = p := by
  rw [col_inv hx.2.2]
  exact h.inv p _ hp (col_ltL hx)
theorem Mdl.redW (h : Mdl g rels D act) {p : α} (hp : D p) : ∀ (n : Nat) (u : W), u.length = n → LOk g u → actW act p (red u) = actW act p u
  | 0, u, hu, _ => by rw [List.length_eq_zero_iff.1 hu]; rfl
  | n + 1, u, hu, hz => by
    rcases List.eq_nil_or_concat u with rfl | ⟨c, x, rfl⟩
    · cases hu
    · rw [List.concat_eq_append] at hu hz ⊢
      have hc : LOk g c := fun y hy => hz y (List.mem_append_left _ hy)
      have hx := hz x (List.mem_append_right _ (List.mem_singleton_self _))
      have ih := Mdl.redW h hp n c (by simpa using hu) hc
      rw [red_snoc, actW_app, ← ih]
      have hr := lok_redP hc
      generalize red c = s at *
      rcases List.eq_nil_or_concat s with rfl | ⟨d, y, rfl⟩
      · rw [push_nil]; rfl
      · rw [List.concat_eq_append] at hr ⊢
        rw [push_snoc]
        split
        · rename_i ho
          obtain ⟨h1, h2⟩ := opp_iff.1 ho
          subst h2
          have hd : LOk g d := fun z hz => hr z (List.mem_append_left _ hz)
          rw [actW_app]
          exact (h.back (h.clW hd hp) (hr y (List.mem_append_right _ (List.mem_singleton_self _)))).symm
        · rw [actW_app]
theorem Mdl.fe (h : Mdl g rels D act) {p : α} (hp : D p) {u v : W} (hu : LOk g u) (hv : LOk g v) (e : Fe u v) : actW act p u = actW act p v := by
  rw [← h.redW hp _ u rfl hu, ← h.redW hp _ v rfl hv, e]
theorem Full.free {t : Tb} (h : Full g t) : Mdl g [] (fun x => x < t.length) (Ct.nx t) := h.mdl (fun _j hj => absurd hj (Nat.not_lt_zero _)) fun _ _ _j hj => absurd hj (Nat.not_lt_zero _)
theorem Mdl.fixS (h : Mdl g rels D act) {p : α} (hp : D p) {G : List W} (hG : ∀ j, LOk g (G.getD j [])) (hf : ∀ j, j < G.length → actW act p (G.getD j []) = p) : ∀ v : W, LOk g (wordS G v) ∧ actW act p (wordS G v) = p
  | [] => ⟨LOk.nil, rfl⟩
  | x :: v => by
    obtain ⟨i1, i2⟩ := Mdl.fixS h hp hG hf v
    have hf' : ∀ j, actW act p (G.getD j []) = p := fun j => by
      rcases Nat.lt_or_ge j G.length with hj | hj
      · exact hf j hj
      · rw [List.getD_eq_getElem?_getD, List.getElem?_eq_none hj]; rfl
    have e : wordS G (x :: v) = word1 G x ++ wordS G v := rfl
    have h1 : LOk g (word1 G x) ∧ actW act p (word1 G x) = p := by
      unfold word1
      split
      · exact ⟨hG _, hf' _⟩
      · refine ⟨(hG _).inv, ?_⟩
        have := h.invW (hG (-x - 1).toNat) hp
        rw [hf'] at this
        exact this
    rw [e, actW_app, h1.2, i2]
    exact ⟨h1.1.app i1, rfl⟩
end
section
variable {g : Nat} {t : Tb}
theorem reps_nil (ht : Full g t) (hs : std t 0 = some t) : (reps t).getD 0 [] = [] := by
  rcases reps_grown ht hs 0 (by rw [reps_len ht hs]; exact ht.good.n1) with ⟨-, e⟩ | ⟨i, c, h, -⟩
  · exact e
  · exact absurd h (Nat.not_lt_zero _)
def tp (t : Tb) (j : Nat) : Nat × Nat :=
  if col (((reps t).getD j []).getLastD 0) % 2 = 0 then (nx t j (flp (col (((reps t).getD j []).getLastD 0))), col (((reps t).getD j []).getLastD 0) / 2) else (j, col (((reps t).getD j []).getLastD 0) / 2)
structure TP (g : Nat) (t : Tb) (j i c : Nat) : Prop where
  ij : i < j
  hc : c < 2 * g
  e : t.at i c = (j : Int)
  r : (reps t).getD j [] = (reps t).getD i [] ++ [letter c]
  is : tp t j = if c % 2 = 0 then (i, c / 2) else (j, c / 2)
theorem eback_nx (ht : Full g t) {i c j : Nat} (hi : i < t.length) (hc : c < 2 * g) (e : t.at i c = (j : Int)) : nx t j (flp c) = i := by
  have h3 := ht.good.eback hi hc e
  unfold nx
  rw [show t.at j (flp c) = (i : Int) from h3]
  rfl
theorem tp_of (ht : Full g t) {i j c : Nat} (hi : i < t.length) (hc : c < 2 * g) (e : t.at i c = (j : Int)) (r : (reps t).getD j [] = (reps t).getD i [] ++ [letter c]) : tp t j = if c % 2 = 0 then (i, c / 2) else (j, c / 2) := by
  unfold tp
  rw [r, List.getLastD_concat, col_letter, eback_nx ht hi hc e]
theorem tp_at (ht : Full g t) (hs : std t 0 = some t) {j : Nat} (h0 : 0 < j) (hj : j < t.length) : ∃ i c, TP g t j i c := by
  rcases reps_grown ht hs j (by rw [reps_len ht hs]; exact hj) with ⟨e, -⟩ | ⟨i, c, h1, h2, h3, h4⟩
  · omega
  · exact ⟨i, c, h1, h2, h3, h4, tp_of ht (by omega) h2 h3 h4⟩
theorem tp_inj (ht : Full g t) (hs : std t 0 = some t) {j k : Nat} (h0 : 0 < j) (hj : j < t.length) (k0 : 0 < k) (hk : k < t.length) (e : tp t j = tp t k) : j = k := by
  obtain ⟨i, c, a1, a2, a3, a4, a5⟩ := tp_at ht hs h0 hj
  obtain ⟨m, d, b1, b2, b3, b4, b5⟩ := tp_at ht hs k0 hk
  rw [a5, b5] at e
  by_cases p : c % 2 = 0 <;> by_cases q : d % 2 = 0
  · rw [if_pos p, if_pos q] at e
    obtain ⟨e1, e2⟩ := Prod.mk.inj e
    subst e1
    have : c = d := by omega
    subst this
    have := a3.symm.trans b3
    omega
  · rw [if_pos p, if_neg q] at e
    obtain ⟨e1, e2⟩ := Prod.mk.inj e
    subst e1
    have h1 := eback_nx ht (by omega) b2 b3
    have h2 : flp d = c := by unfold flp; rw [if_neg q]; omega
    rw [h2] at h1
    unfold nx at h1
    rw [a3] at h1
    have : (j : Int).toNat = j := rfl
    omega
  · rw [if_neg p, if_pos q] at e
    obtain ⟨e1, e2⟩ := Prod.mk.inj e
    subst e1
    have h1 := eback_nx ht (by omega) a2 a3
    have h2 : flp c = d := by unfold flp; rw [if_neg p]; omega
    rw [h2] at h1
    unfold nx at h1
    rw [b3] at h1
    have : (k : Int).toNat = k := rfl
    omega
  · rw [if_neg p, if_neg q] at e
    exact (Prod.mk.inj e).1
theorem tp_nt (ht : Full g t) (hs : std t 0 = some t) {j : Nat} (h0 : 0 < j) (hj : j < t.length) : (tp t j).1 < t.length ∧ (tp t j).2 < g ∧ nt t (reps t) (tp t j).1 (tp t j).2 = false := by
  obtain ⟨i, c, a1, a2, a3, a4, a5⟩ := tp_at ht hs h0 hj
  rw [a5]
  by_cases p : c % 2 = 0
  · rw [if_pos p]
    refine ⟨by show i < _; omega, by show c / 2 < g; omega, ?_⟩
    show nt t (reps t) i (c / 2) = false
    have hd : dest t i (c / 2) = j := by
      unfold dest
      rw [show 2 * (c / 2) = c by omega, a3]
      rfl
    have e : letter c = (c / 2 : Nat) + 1 := by unfold letter; rw [if_neg (by omega)]
    unfold nt
    rw [hd, a4, e]
    simp
  · rw [if_neg p]
    refine ⟨hj, by show c / 2 < g; omega, ?_⟩
    show nt t (reps t) j (c / 2) = false
    have hd : dest t j (c / 2) = i := by
      have h3 := ht.good.eback (by omega) a2 a3
      have e3 : flp c = 2 * (c / 2) := by unfold flp; rw [if_neg p]; omega
      unfold dest
      have h4 : t.at j (flp c) = (i : Int) := h3
      rw [e3] at h4
      rw [h4]
      rfl
    have e : letter c = -((c / 2 : Nat) + 1) := by unfold letter; rw [if_pos (by omega)]
    unfold nt
    rw [hd, a4, e]
    simp
theorem nt_tp (ht : Full g t) (hs : std t 0 = some t) {r h : Nat} (hr : r < t.length) (hh : h < g) (hn : nt t (reps t) r h = false) : ∃ j, 0 < j ∧ j < t.length ∧ tp t j = (r, h) := by
  obtain ⟨d1, d2⟩ := ht.nx hr (show 2 * h < 2 * g by omega)
  have hd : dest t r h = nx t r (2 * h) := rfl
  have he : t.at r (2 * h) = ((nx t r (2 * h) : Nat) : Int) := d2
  unfold nt at hn
  rw [hd] at hn
  generalize nx t r (2 * h) = d at *
  have l1 : letter (2 * h) = ((h + 1 : Nat) : Int) := by unfold letter; rw [if_neg (by omega)]; omega
  have l2 : letter (2 * h + 1) = -((h + 1 : Nat) : Int) := by unfold letter; rw [if_pos (by omega)]; omega
  have h0 := reps_nil ht hs
  have hor : (reps t).getD d [] = (reps t).getD r [] ++ [((h + 1 : Nat) : Int)] ∨ (reps t).getD r [] = (reps t).getD d [] ++ [-((h + 1 : Nat) : Int)] := by
    rcases Bool.and_eq_false_iff.1 hn with h | h
    · exact .inl (by simpa using h)
    · exact .inr (by simpa using h)
  rcases hor with h1 | h1
  · refine ⟨d, ?_, d1, ?_⟩
    · rcases Nat.eq_zero_or_pos d with e | e
      · rw [e, h0] at h1
        simp at h1
      · exact e
    · rw [tp_of ht hr (by omega) he (by rw [h1, l1]), if_pos (by omega)]
      simp
  · refine ⟨r, ?_, hr, ?_⟩
    · rcases Nat.eq_zero_or_pos r with e | e
      · rw [e, h0] at h1
        simp at h1
      · exact e
    · have h3 := ht.good.eback hr (show 2 * h < 2 * g by omega) he
      have e3 : flp (2 * h) = 2 * h + 1 := by unfold flp; rw [if_pos (by omega)]
      have h4 : t.at d (2 * h + 1) = (r : Int) := by rw [← e3]; exact h3
      rw [tp_of ht d1 (by omega) h4 (by rw [h1, l2]), if_neg (by omega)]
      simp
      omega
theorem nt_mem {R : List W} {r h : Nat} (hr : r < t.length) (hh : h < g) (hn : nt t R r h = true) : (r, h) ∈ pairs t R g := by
  refine Decidable.byContradiction fun hm => ?_
  have h1 := place_number (t := t) (R := R) (gens := g) hr hh
  have h2 : placeP (pairTo t R g t.length) r h = 0 := if_neg hm
  rw [h2] at h1
  unfold number at h1
  rw [if_pos hn, pairRow_succ, if_pos hn, List.length_append] at h1
  simp at h1
  omega
theorem nodup_map_of {β : Type} {f : β → Nat} : ∀ {l : List β}, (∀ x ∈ l, ∀ y ∈ l, f x = f y → x = y) → l.Nodup → (l.map f).Nodup
  | [], _, _ => List.nodup_nil
  | x :: l, h, hn => by
    obtain ⟨h1, h2⟩ := List.nodup_cons.1 hn
    rw [List.map_cons, List.nodup_cons]
    refine ⟨fun hm => ?_, nodup_map_of (fun a ha b hb => h a (List.mem_cons_of_mem _ ha) b (List.mem_cons_of_mem _ hb)) h2⟩
    obtain ⟨y, hy, e⟩ := List.mem_map.1 hm
    have := h y (List.mem_cons_of_mem _ hy) x (List.mem_cons_self ..) e
    rw [this] at hy
    exact h1 hy
def enc (g : Nat) (p : Nat × Nat) : Nat := p.1 * g + p.2
theorem enc_inj {p q : Nat × Nat} (hp : p.2 < g) (hq : q.2 < g) (e : enc g p = enc g q) : p = q := by
  unfold enc at e
  have h1 : (p.1 * g + p.2) / g = p.1 := by rw [Nat.mul_comm, Nat.mul_add_div (by omega), Nat.div_eq_of_lt hp]; rfl
  have h2 : (q.1 * g + q.2) / g = q.1 := by rw [Nat.mul_comm, Nat.mul_add_div (by omega), Nat.div_eq_of_lt hq]; rfl
  have h3 : p.1 = q.1 := by rw [← h1, e, h2]
  rw [h3] at e
  exact Prod.ext h3 (by omega)
theorem enc_lt {n : Nat} {p : Nat × Nat} (h1 : p.1 < n) (h2 : p.2 < g) : enc g p < n * g := by
  unfold enc
  calc p.1 * g + p.2 < p.1 * g + g := by omega
    _ = (p.1 + 1) * g := by rw [Nat.add_mul, Nat.one_mul]
    _ ≤ n * g := Nat.mul_le_mul_right _ h1
theorem pairs_count (ht : Full g t) (hs : std t 0 = some t) : (pairs t (reps t) g).length + (t.length - 1) = t.length * g := by
  have hn1 := ht.good.n1
  have hg1 := ht.good.g1
  have hps : ∀ p ∈ pairs t (reps t) g, p.1 < t.length ∧ p.2 < g ∧ nt t (reps t) p.1 p.2 = true := fun p hp => mem_pairTo hp
  have hA : ((pairs t (reps t) g).map (enc g) ++ (List.range (t.length - 1)).map fun j => enc g (tp t (j + 1))).Nodup := by
    refine List.nodup_append.2 ⟨nodup_map_of (fun x hx y hy e => enc_inj (hps x hx).2.1 (hps y hy).2.1 e) (pairTo_nodup g _), nodup_map_on (fun x hx y hy e => ?_) List.nodup_range, fun a ha b hb e => ?_⟩
    · have hx' := List.mem_range.1 hx
      have hy' := List.mem_range.1 hy
      have h1 := tp_nt ht hs (j := x + 1) (by omega) (by omega)
      have h2 := tp_nt ht hs (j := y + 1) (by omega) (by omega)
      have := tp_inj ht hs (by omega) (by omega) (by omega) (by omega) (enc_inj h1.2.1 h2.2.1 e)
      omega
    · obtain ⟨p, hp, rfl⟩ := List.mem_map.1 ha
      obtain ⟨j, hj, rfl⟩ := List.mem_map.1 hb
      have hj' := List.mem_range.1 hj
      have h1 := tp_nt ht hs (j := j + 1) (by omega) (by omega)
      have h2 := enc_inj (hps p hp).2.1 h1.2.1 e
      have h3 := (hps p hp).2.2
      rw [h2, h1.2.2] at h3
      cases h3
  have h1 := len_le_of_sub (b := List.range (t.length * g)) hA (fun x hx => by
    rw [List.mem_range]
    rcases List.mem_append.1 hx with hx | hx
    · obtain ⟨p, hp, rfl⟩ := List.mem_map.1 hx
      exact enc_lt (hps p hp).1 (hps p hp).2.1
    · obtain ⟨j, hj, rfl⟩ := List.mem_map.1 hx
      have hj' := List.mem_range.1 hj
      have h1 := tp_nt ht hs (j := j + 1) (by omega) (by omega)
      exact enc_lt h1.1 h1.2.1)
  have h2 := len_le_of_sub (a := List.range (t.length * g)) (b := (pairs t (reps t) g).map (enc g) ++ (List.range (t.length - 1)).map fun j => enc g (tp t (j + 1))) List.nodup_range (fun x hx => by
    rw [List.mem_range] at hx
    have hr : x / g < t.length := (Nat.div_lt_iff_lt_mul (by omega)).2 hx
    have hh : x % g < g := Nat.mod_lt _ (by omega)
    have hx' : enc g (x / g, x % g) = x := by unfold enc; rw [Nat.mul_comm]; exact Nat.div_add_mod x g
    rw [List.mem_append]
    cases hn : nt t (reps t) (x / g) (x % g) with
    | true => exact .inl (List.mem_map.2 ⟨_, nt_mem hr hh hn, hx'⟩)
    | false =>
      obtain ⟨j, h0, hj, e⟩ := nt_tp ht hs hr hh hn
      refine .inr (List.mem_map.2 ⟨j - 1, List.mem_range.2 (by omega), ?_⟩)
      show enc g (tp t (j - 1 + 1)) = x
      rw [show j - 1 + 1 = j by omega, e, hx'])
  simp only [List.length_append, List.length_map, List.length_range] at h1 h2
  omega
theorem pairs_many (ht : Full g t) (hs : std t 0 = some t) : (pairs t (reps t) g).length = t.length * (g - 1) + 1 := by
  have h := pairs_count ht hs
  have hn1 := ht.good.n1
  have hg1 := ht.good.g1
  obtain ⟨k, rfl⟩ : ∃ k, g = k + 1 := ⟨g - 1, by omega⟩
  rw [Nat.mul_add, Nat.mul_one] at h
  show _ = t.length * k + 1
  omega
theorem gens_fix (ht : Full g t) (hs : std t 0 = some t) (j : Nat) : actW (nx t) 0 ((gensW t (reps t) g).getD j []) = 0 := by
  rcases Nat.lt_or_ge j (pairs t (reps t) g).length with hj | hj
  · rw [gensW_get hj]
    have hR := reps_ok ht
    obtain ⟨h1, h2, -⟩ := pairs_get hj
    generalize (pairs t (reps t) g).getD j (0, 0) = p at *
    obtain ⟨r, k⟩ := p
    have h1' : r < t.length := h1
    have hx := gen_ok (g := g) (h := k) h2
    have hd := (ht.nx h1' (col_ltL hx)).1
    have hA : LOk g ((reps t).getD r [] ++ [((k + 1 : Nat) : Int)] ++ inv ((reps t).getD (nx t r (col ((k + 1 : Nat) : Int))) [])) := ((hR r).app (fun z hz => by rw [List.mem_singleton.1 hz]; exact hx)).app (hR _).inv
    rw [ht.free.fe ht.good.n1 (schr_ok hR h2) hA (schr_fe hR h2), actW_app, actW_app, (rl_rep ht hs r h1').2]
    show actW (nx t) (nx t r (col ((k + 1 : Nat) : Int))) _ = 0
    have h3 := ht.free.invW (hR (nx t r (col ((k + 1 : Nat) : Int)))) ht.good.n1
    rw [(rl_rep ht hs _ hd).2] at h3
    exact h3
  · rw [List.getD_eq_getElem?_getD, List.getElem?_eq_none (by rw [length_gensW]; exact hj)]
    rfl
end
end Go.Proofs.Ct
namespace Go.Proofs.Ct
theorem letter_col {x : Int} (h : x ≠ 0) : letter (col x) = x := by
  unfold letter col
  repeat (first | omega | split)
theorem letter_flp (c : Nat) : letter (flp c) = -letter c := by
  unfold letter flp
  repeat (first | omega | split)
section
variable {g : Nat} {t u : Tb} {rels : List W}
theorem mem_relTo {R : List W} {n : Nat} {w : W} : w ∈ relTo t R g rels n ↔ ∃ r i, r < n ∧ i < rels.length ∧ w = rwW t R g r (rels.getD i []) ∧ 0 < w.length := by
  unfold relTo relRow solid
  simp only [List.mem_flatMap, List.mem_filter, List.mem_map, List.mem_range, decide_eq_true_eq]
  constructor
  · rintro ⟨r, hr, ⟨i, hi, rfl⟩, h⟩
    exact ⟨r, i, hr, hi, rfl, h⟩
  · rintro ⟨r, i, hr, hi, rfl, h⟩
    exact ⟨r, hr, ⟨i, hi, rfl⟩, h⟩
theorem getD_mem_lt {l : List W} {j : Nat} (h : j < l.length) : l.getD j [] ∈ l := by
  rw [List.getD_eq_getElem?_getD, List.getElem?_eq_getElem h]
  exact List.getElem_mem h
theorem mem_getD {l : List W} {w : W} (h : w ∈ l) : ∃ j, j < l.length ∧ l.getD j [] = w := by
  obtain ⟨j, hj, e⟩ := List.mem_iff_getElem.1 h
  exact ⟨j, hj, by rw [List.getD_eq_getElem?_getD, List.getElem?_eq_getElem hj, ← e]; rfl⟩
theorem relTo_ok (ht : Full g t) (hr : ∀ j, j < rels.length → LOk g (rels.getD j [])) : ∀ j, j < (relTo t (reps t) g rels t.length).length → LOk (pairs t (reps t) g).length ((relTo t (reps t) g rels t.length).getD j []) := fun j hj => by
  obtain ⟨r, i, h1, h2, h3, -⟩ := mem_relTo.1 (getD_mem_lt hj)
  rw [h3, rwW_rl]
  exact lok_redP (rl_bd ht (hr i h2) h1)
def act3 (g : Nat) (t u : Tb) (p : Nat × Nat) (c : Nat) : Nat × Nat := (nx t p.1 c, actW (nx u) p.2 (oneL t (reps t) g p.1 (letter c)))
theorem act3_W : ∀ {w : W} {p : Nat × Nat}, Nz w → actW (act3 g t u) p w = (actW (nx t) p.1 w, actW (nx u) p.2 (rl t (reps t) g p.1 w))
  | [], p, _ => rfl
  | x :: w, p, h => by
    have hx : x ≠ 0 := h x (List.mem_cons_self ..)
    have hw : Nz w := fun y hy => h y (List.mem_cons_of_mem _ hy)
    show actW (act3 g t u) (act3 g t u p (col x)) w = _
    rw [act3_W hw]
    unfold act3
    rw [letter_col hx]
    show _ = (actW (nx t) (nx t p.1 (col x)) w, actW (nx u) p.2 (oneL t (reps t) g p.1 x ++ rl t (reps t) g (nx t p.1 (col x)) w))
    rw [actW_app]
theorem rl_wordS (ht : Full g t) (hs : std t 0 = some t) : ∀ {v : W}, LOk (pairs t (reps t) g).length v → Fe (rl t (reps t) g 0 (wordS (gensW t (reps t) g) v)) v
  | [], _ => rfl
  | x :: v, h => by
    obtain ⟨hx, hv⟩ := h.cons
    have ih := rl_wordS ht hs hv
    have hR := reps_ok ht
    have hG := gensW_ok (t := t) (g := g) hR
    have e : wordS (gensW t (reps t) g) (x :: v) = word1 (gensW t (reps t) g) x ++ wordS (gensW t (reps t) g) v := rfl
    have h1 : Fe (rl t (reps t) g 0 (word1 (gensW t (reps t) g) x)) [x] ∧ actW (nx t) 0 (word1 (gensW t (reps t) g) x) = 0 := by
      unfold word1
      by_cases h0 : 0 < x
      · rw [if_pos h0]
        have hi : (x - 1).toNat < (gensW t (reps t) g).length := by rw [length_gensW]; omega
        have hb := back_gens ht hs hi
        rw [rwW_rl, show (((x - 1).toNat + 1 : Nat) : Int) = x by omega] at hb
        refine ⟨?_, gens_fix ht hs _⟩
        show red _ = red [x]
        rw [hb]
        rfl
      · rw [if_neg h0]
        have hi : (-x - 1).toNat < (gensW t (reps t) g).length := by rw [length_gensW]; omega
        have hb := back_gens ht hs hi
        rw [rwW_rl, show (((-x - 1).toNat + 1 : Nat) : Int) = -x by omega] at hb
        obtain ⟨c1, c2⟩ := rl_inv (R := reps t) ht (hG (-x - 1).toNat) ht.good.n1
        rw [gens_fix ht hs] at c1 c2
        refine ⟨?_, c2⟩
        rw [c1]
        have h3 : Fe (rl t (reps t) g 0 ((gensW t (reps t) g).getD (-x - 1).toNat [])) [-x] := by
          show red _ = red [-x]
          rw [hb]
          rfl
        have h4 := h3.inv (rl_nz _ _) (Nz.one (by omega))
        have e2 : inv [-x] = [x] := by simp [inv]
        rw [e2] at h4
        exact h4
    rw [e, rl_app, h1.2]
    exact h1.1.app ih (rl_nz _ _) (Nz.one hx.2.2) (rl_nz _ _) hv.nz
theorem orders_law (ht : Full g t) (hs : std t 0 = some t) (hr : ∀ j, j < rels.length → LOk g (rels.getD j [])) (hc : ∀ i, i < t.length → ∀ j, j < rels.length → Way t i (rels.getD j []) i)
    (hu : Coset (pairs t (reps t) g).length (relTo t (reps t) g rels t.length) [] u) {n : Nat} (hreg : Reg g rels n) : n = t.length * u.length := by
  have hR := reps_ok ht
  have hG := gensW_ok (t := t) (g := g) hR
  have h0 := reps_nil ht hs
  have hQ := relTo_ok (rels := rels) ht hr
  have MU := hu.full.mdl hQ hu.rel
  have hrw : ∀ r i x, r < t.length → i < rels.length → x < u.length → actW (nx u) x (rl t (reps t) g r (rels.getD i [])) = x := fun r i x h1 h2 h3 => by
    rw [← MU.redW h3 _ _ rfl (rl_bd ht (hr i h2) h1), ← rwW_rl]
    rcases Nat.eq_zero_or_pos (rwW t (reps t) g r (rels.getD i [])).length with h | h
    · rw [List.length_eq_zero_iff.1 h]; rfl
    · obtain ⟨j, hj, e⟩ := mem_getD (mem_relTo.2 ⟨r, i, h1, h2, rfl, h⟩)
      rw [← e]
      exact MU.rel x j h3 hj
  have hone : ∀ r c, r < t.length → c < 2 * g → LOk (pairs t (reps t) g).length (oneL t (reps t) g r (letter c)) := fun r c h1 h2 => by
    have := rl_bd (R := reps t) ht (w := [letter c]) (r := r) (fun z hz => by rw [List.mem_singleton.1 hz]; have := letter_range h2; omega) h1
    rwa [rl_one] at this
  have MT : Mdl g rels (fun p : Nat × Nat => p.1 < t.length ∧ p.2 < u.length) (act3 g t u) := by
    refine ⟨fun p c hp hc' => ⟨(ht.nx hp.1 hc').1, (hu.full.way (hone _ _ hp.1 hc') hp.2).1⟩, fun p c hp hc' => ?_, fun p i hp hi => ?_⟩
    · have hl := letter_range hc'
      have h1 := oneL_back (R := reps t) ht hp.1 (x := letter c) (by omega)
      rw [col_letter] at h1
      unfold act3
      show (nx t (nx t p.1 c) (flp c), actW (nx u) (actW (nx u) p.2 (oneL t (reps t) g p.1 (letter c))) (oneL t (reps t) g (nx t p.1 c) (letter (flp c)))) = p
      rw [letter_flp, h1, MU.invW (hone _ _ hp.1 hc') hp.2]
      refine Prod.ext ?_ rfl
      exact ht.free.inv p.1 c hp.1 hc'
    · rw [act3_W (hr i hi).nz, hrw _ _ _ hp.1 hi hp.2, ht.actW_of (hr i hi) hp.1 (hc _ hp.1 i hi)]
  obtain ⟨act, n1, -, hM, hreach, huniv⟩ := hreg
  have hn0 : 0 < n := n1
  have hg1 := ht.good.n1
  have hu1 := hu.full.good.n1
  obtain ⟨φ, φ0, φD, φe⟩ := huniv MT (p0 := ((0, 0) : Nat × Nat)) ⟨hg1, hu1⟩
  have hw1 : ∀ x, LOk g (word1 (gensW t (reps t) g) x) := fun x => by
    unfold word1
    split
    · exact hG _
    · exact (hG _).inv
  have hwS : ∀ v, LOk g (wordS (gensW t (reps t) g) v) := fun v => (ht.free.fixS hg1 hG (fun j _ => gens_fix ht hs j) v).1
  have hq : ∀ {v : W} {p : Nat}, Nz v → actW (fun p c => actW act p (word1 (gensW t (reps t) g) (letter c))) p v = actW act p (wordS (gensW t (reps t) g) v) := by
    intro v
    induction v with
    | nil => intro p _; rfl
    | cons x v ih =>
      intro p hz
      have e : wordS (gensW t (reps t) g) (x :: v) = word1 (gensW t (reps t) g) x ++ wordS (gensW t (reps t) g) v := rfl
      rw [e, actW_app]
      show actW _ (actW act p (word1 (gensW t (reps t) g) (letter (col x)))) v = _
      rw [letter_col (hz x (List.mem_cons_self ..)), ih fun y hy => hz y (List.mem_cons_of_mem _ hy)]
  have MQ : Mdl (pairs t (reps t) g).length (relTo t (reps t) g rels t.length) (fun x => x < n) (fun p c => actW act p (word1 (gensW t (reps t) g) (letter c))) := by
    refine ⟨fun p c hp _ => hM.clW (hw1 _) hp, fun p c hp hc' => ?_, fun p j hp hj => ?_⟩
    · show actW act (actW act p (word1 (gensW t (reps t) g) (letter c))) (word1 (gensW t (reps t) g) (letter (flp c))) = p
      have hl := letter_range hc'
      rw [letter_flp, word1_neg _ (by omega)]
      exact hM.invW (hw1 _) hp
    · rw [hq (hQ j hj).nz]
      obtain ⟨r, i, h1, h2, h3, -⟩ := mem_relTo.1 (getD_mem_lt hj)
      have f1 := wordS_red (G := gensW t (reps t) g) (fun j => (hG j).nz) _ _ rfl (rl_nz (t := t) (R := reps t) (g := g) r (rels.getD i []))
      have f2 := rl_fe (R := reps t) ht hR (hr i h2) h1
      rw [ht.actW_of (hr i h2) h1 (hc r h1 i h2)] at f2
      rw [h3, rwW_rl, hM.fe hp (hwS _) (((hR r).app (hr i h2)).app (hR r).inv) (f1.trans f2), actW_app, actW_app]
      have hp1 := hM.clW (hR r) hp
      rw [hM.rel _ i hp1 h2]
      exact hM.invW (hR r) hp
  obtain ⟨ψ, ψ0, ψD, ψe⟩ := hu.univ MQ (p0 := 0) hn0 (fun j hj => absurd hj (Nat.not_lt_zero _))
  have ψW : ∀ {v : W} {x : Nat}, LOk (pairs t (reps t) g).length v → x < u.length → ψ (actW (nx u) x v) = actW act (ψ x) (wordS (gensW t (reps t) g) v) := by
    intro v
    induction v with
    | nil => intro x _ _; rfl
    | cons y v ih =>
      intro x hv hx
      obtain ⟨hy, hv'⟩ := hv.cons
      obtain ⟨e1, e2⟩ := hu.full.nx hx (col_ltL hy)
      have e : wordS (gensW t (reps t) g) (y :: v) = word1 (gensW t (reps t) g) y ++ wordS (gensW t (reps t) g) v := rfl
      show ψ (actW (nx u) (nx u x (col y)) v) = _
      rw [ih hv' e1, e, actW_app, ← ψe x (col y) _ hx (col_ltL hy) e2, letter_col hy.2.2]
  have φW : ∀ {w : W} {a : Nat}, LOk g w → a < n → φ (actW act a w) = actW (act3 g t u) (φ a) w := by
    intro w
    induction w with
    | nil => intro a _ _; rfl
    | cons y w ih =>
      intro a hw ha
      obtain ⟨hy, hw'⟩ := hw.cons
      show φ (actW act (act a (col y)) w) = actW (act3 g t u) (act3 g t u (φ a) (col y)) w
      rw [ih hw' (hM.cl a _ ha (col_ltL hy)), φe a _ ha (col_ltL hy)]
  have hword : ∀ a, a < n → ∃ w, LOk g w ∧ actW act 0 w = a := by
    intro a
    induction a using Nat.strongRecOn with
    | _ a ih =>
      intro ha
      rcases Nat.eq_zero_or_pos a with rfl | h
      · exact ⟨[], LOk.nil, rfl⟩
      · obtain ⟨p, c, h1, h2, h3⟩ := hreach a h ha
        obtain ⟨w, w1, w2⟩ := ih p h1 (by omega)
        have hl : LOk g [letter c] := fun z hz => by rw [List.mem_singleton.1 hz]; have := letter_range h2; omega
        refine ⟨w ++ [letter c], w1.app hl, ?_⟩
        rw [actW_app, w2]
        show act p (col (letter c)) = a
        rw [col_letter, h3]
  have hback : ∀ a, a < n → actW act (ψ (φ a).2) ((reps t).getD (φ a).1 []) = a := fun a ha => by
    obtain ⟨w, w1, rfl⟩ := hword a ha
    rw [φW w1 hn0, φ0, act3_W w1.nz]
    show actW act (ψ (actW (nx u) 0 (rl t (reps t) g 0 w))) ((reps t).getD (actW (nx t) 0 w) []) = _
    have f2 := rl_fe (R := reps t) ht hR w1 hg1
    rw [h0] at f2
    have hi : LOk g (([] : W) ++ w ++ inv ((reps t).getD (actW (nx t) 0 w) [])) := (LOk.nil.app w1).app (hR _).inv
    rw [ψW (rl_bd ht w1 hg1) hu1, ψ0, hM.fe hn0 (hwS _) hi f2, actW_app]
    show actW act (actW act (actW act 0 w) _) _ = _
    have h5 := hM.invW (hR (actW (nx t) 0 w)).inv ha
    rw [inv_inv] at h5
    exact h5
  have l1 : n ≤ t.length * u.length := by
    have := len_le_of_sub (a := (List.range n).map fun a => enc u.length (φ a)) (b := List.range (t.length * u.length)) (nodup_map_on (fun x hx y hy e => by
      have hx' := List.mem_range.1 hx
      have hy' := List.mem_range.1 hy
      have := enc_inj (φD x hx').2 (φD y hy').2 e
      rw [← hback x hx', ← hback y hy', this]) List.nodup_range) (fun x hx => by
      obtain ⟨a, ha, rfl⟩ := List.mem_map.1 hx
      have ha' := List.mem_range.1 ha
      exact List.mem_range.2 (enc_lt (φD a ha').1 (φD a ha').2))
    simpa using this
  have l2 : t.length * u.length ≤ n := by
    have := len_le_of_sub (a := List.range (t.length * u.length)) (b := (List.range n).map fun a => enc u.length (φ a)) List.nodup_range (fun k hk => by
      have hk' := List.mem_range.1 hk
      have hi : k / u.length < t.length := (Nat.div_lt_iff_lt_mul (by omega)).2 hk'
      have hx : k % u.length < u.length := Nat.mod_lt _ (by omega)
      have he : enc u.length (k / u.length, k % u.length) = k := by unfold enc; rw [Nat.mul_comm]; exact Nat.div_add_mod k u.length
      generalize k / u.length = i at *
      generalize k % u.length = x at *
      have hv := reps_ok hu.full x
      have hvx := (rl_rep hu.full hu.std x hx).2
      generalize (reps u).getD x [] = v at *
      have hW := (hwS v).app (hR i)
      refine List.mem_map.2 ⟨actW act 0 (wordS (gensW t (reps t) g) v ++ (reps t).getD i []), List.mem_range.2 (hM.clW hW hn0), ?_⟩
      show enc u.length (φ _) = k
      rw [φW hW hn0, φ0, actW_app, act3_W (hwS v).nz]
      show enc u.length (actW (act3 g t u) (actW (nx t) 0 (wordS (gensW t (reps t) g) v), actW (nx u) 0 (rl t (reps t) g 0 (wordS (gensW t (reps t) g) v))) _) = k
      rw [(ht.free.fixS hg1 hG (fun j _ => gens_fix ht hs j) v).2, MU.fe hu1 (rl_bd ht (hwS v) hg1) hv (rl_wordS ht hs hv), hvx, act3_W (hR i).nz]
      show enc u.length (actW (nx t) 0 ((reps t).getD i []), actW (nx u) x (rl t (reps t) g 0 ((reps t).getD i []))) = k
      rw [(rl_rep ht hs i hi).1, (rl_rep ht hs i hi).2]
      exact he)
    simpa using this
  omega
end
end Go.Proofs.Ct
namespace Go.Proofs
open Go.RowKit Go.Shelf Go.Proofs.Ct Go.Maps
theorem lens_take (l : List W) (k : Nat) : lens (l.take k) ≤ lens l := by
  have h : lens l = lens (l.take k) + lens (l.drop k) := by rw [← lens_append, List.take_append_drop]
  omega
theorem sumTo_take (l : List W) : ∀ k, k ≤ l.length → sumTo l k = lens (l.take k)
  | 0, _ => rfl
  | k + 1, h => by
    have ih := sumTo_take l k (by omega)
    have e : l.take (k + 1) = l.take k ++ [l.getD k []] := by
      rw [List.take_succ_eq_append_getElem (by omega), List.getD_eq_getElem?_getD, List.getElem?_eq_getElem (by omega)]
      rfl
    unfold sumTo at ih ⊢
    rw [foldTo, ih, e, lens_append, lens_one]
theorem len_lens {l : List W} (j : Nat) : (l.getD j []).length ≤ lens l := by
  rcases Nat.lt_or_ge j l.length with h | h
  · have h1 := sumTo_take l (j + 1) (by omega)
    have h2 := sumTo_take l j (by omega)
    have h3 := lens_take l (j + 1)
    have h4 : sumTo l (j + 1) = sumTo l j + (l.getD j []).length := rfl
    omega
  · rw [List.getD_eq_getElem?_getD, List.getElem?_eq_none h]
    exact Nat.zero_le _
theorem pres_of {m : Nat} {l : List W} (hm : 1 ≤ m ∧ m ≤ 16) (hl : tooLong l = false) (ho : ∀ j, j < l.length → LOk m (l.getD j [])) : presE m l = 0 := by
  obtain ⟨h1, h2⟩ := tooLong_false.1 hl
  refine presE_none hm h1 fun j hj => ?_
  unfold presBad
  have h3 := sumTo_take l (j + 1) (by omega)
  have h4 := lens_take l (j + 1)
  rw [if_neg (by omega), if_neg (by rw [letBad_ok (ho j hj)]; simp)]
theorem holdsB_nil {rels sub : List W} {t : Tb} (h : holdsB rels sub t = true) : holdsB rels [] t = true := by
  unfold holdsB at h ⊢
  rw [Bool.and_eq_true, Bool.and_eq_true] at h
  rw [h.1.1, h.2]
  rfl
theorem bad_nil {g lim : Nat} (h : 1 ≤ lim ∧ lim ≤ 20000) : badArgs g [] (lim : Int) = false := by
  have h1 : sumTo ([] : List W) 0 = 0 := rfl
  unfold badArgs
  simp only [List.any_nil, Bool.or_false, Bool.or_eq_false_iff, decide_eq_false_iff_not, List.length_nil]
  omega
structure PresL (n g : Nat) (rels : List W) (t : Tb) (m : Int) (q : List W) (f : Int) (U : Tb) (d k h : Int) : Prop where
  is : presentE g rels t = ((m, q), f)
  cases : f = 5 ∨ f = 4 ∨ (f = 0 ∧ 1 ≤ m)
  rows : ∀ j, (q.getD j []).length ≤ 4000
  many : q.length ≤ 100
  enum : enumE m q [] 2000 = (U, (d, k), h)
  ul : U.length ≤ 2000
  fin : f = 0 → h = 12 ∨ (h = 0 ∧ U.length * t.length = n)
theorem present_law {g n : Nat} {rels sub : List W} {t : Tb} (_hg : 1 ≤ g ∧ g ≤ 16) (hp : presE g rels = 0) (hr : ∀ j, j < rels.length → LOk g (rels.getD j [])) (ht : Coset g rels sub t) (hreg : Reg g rels n) : ∃ m q f U d k h, PresL n g rels t m q f U d k h := by
  have hre := repsE_full ht.full ht.std
  have hH := holdsB_nil ht.holds
  have hmany := pairs_many ht.full ht.std
  by_cases h1 : 16 < (pairs t (reps t) g).length
  · refine ⟨0, [], 5, [], 0, 0, 2, ⟨?_, .inl rfl, fun _ => Nat.zero_le _, Nat.zero_le _, ?_, Nat.zero_le _, fun h => by cases h⟩⟩
    · unfold presentE
      rw [if_neg (by rw [hp]; simp), hre, if_neg (by simp), if_neg (by rw [hH]; simp), Int.toNat_natCast, if_pos h1]
    · exact enumE_pres (by decide)
  · by_cases h2 : tooLong (relTo t (reps t) g rels t.length) = true
    · refine ⟨0, [], 4, [], 0, 0, 2, ⟨?_, .inr (.inl rfl), fun _ => Nat.zero_le _, Nat.zero_le _, ?_, Nat.zero_le _, fun h => by cases h⟩⟩
      · unfold presentE
        rw [if_neg (by rw [hp]; simp), hre, if_neg (by simp), if_neg (by rw [hH]; simp), Int.toNat_natCast, if_neg h1, if_pos h2]
      · exact enumE_pres (by decide)
    · have h2' := Bool.eq_false_iff.2 h2
      obtain ⟨z1, z2⟩ := tooLong_false.1 h2'
      have ho := relTo_ok (rels := rels) ht.full hr
      have hpq := pres_of (m := (pairs t (reps t) g).length) ⟨by omega, by omega⟩ h2' ho
      have hE : presentE g rels t = ((((pairs t (reps t) g).length : Int), relTo t (reps t) g rels t.length), 0) := by
        unfold presentE
        rw [if_neg (by rw [hp]; simp), hre, if_neg (by simp), if_neg (by rw [hH]; simp), Int.toNat_natCast, if_neg h1, if_neg h2]
      rcases enum_cases (lim := 2000) ⟨by omega, by omega⟩ hpq ho (fun j hj => absurd hj (Nat.not_lt_zero _)) (fun lim' a b => bad_nil ⟨a, b⟩) (by omega) with c1 | ⟨u, d, k, c1⟩
      · exact ⟨_, _, 0, [], 0, 0, 12, ⟨hE, .inr (.inr ⟨rfl, by omega⟩), fun j => Nat.le_trans (len_lens j) z2, z1, c1, Nat.zero_le _, fun _ => .inl rfl⟩⟩
      · refine ⟨_, _, 0, u, d, k, 0, ⟨hE, .inr (.inr ⟨rfl, by omega⟩), fun j => Nat.le_trans (len_lens j) z2, z1, c1.is 2000 c1.room (by omega), by have := c1.live; have := c1.most; have := c1.room; omega, fun _ => .inr ⟨rfl, ?_⟩⟩⟩
        rw [orders_law ht.full ht.std hr ht.rel c1.coset hreg, Nat.mul_comm]
end Go.Proofs
namespace Go.Proofs
open Go.RowKit Go.Shelf Go.Proofs.Ct Go.Maps
structure OrdL (g N : Nat) (rels sub : List W) (T : Tb) (d1 k1 e1 : Int) : Prop where
  g1 : 1 ≤ g
  g3 : g ≤ 3
  wrel : Wds g rels 6 60
  wsub : Wds g sub 4 12
  enum : enumE g rels sub 300 = (T, (d1, k1), e1)
  tl : T.length ≤ 300
  nn : N ≤ 1000
  cases : e1 = 12 ∨ (e1 = 0 ∧ ∃ m q f U d k h, PresL N g rels T m q f U d k h)
theorem orders_all (x : Int) (l : List Int) : ∃ (g N : Nat) (T : Tb) (d1 k1 e1 : Int), (knownE x).1 = (g : Int) ∧ (knownE x).2.2 = (N : Int) ∧ OrdL g N (knownE x).2.1 (lawWords g 4 l) T d1 k1 e1 := by
  have h1 := mod14 x
  obtain ⟨g', n, k1, k2, k3⟩ := known_reg _ h1
  obtain ⟨g, k4, k5, k6, k7⟩ := known_wds (known_all _ h1)
  have e1 : g' = g := by omega
  subst e1
  have h5 := wds_law k5 4 l
  have hp := k7.pres ⟨k5, by omega⟩ (by omega) (by omega)
  have hn : n ≤ 1000 := by
    obtain ⟨_, _, h, _⟩ := k3
    exact h
  have e2 : knownE x = knownT (x % 14).toNat := rfl
  rw [← e2] at k1 k2 k3 k7 hp
  rcases enum_cases (lim := 300) ⟨k5, by omega⟩ hp k7.ok h5.ok (fun lim' a b => h5.good (by omega) (by omega) ⟨a, b⟩) (by omega) with c1 | ⟨t, d, q, c1⟩
  · exact ⟨g', n, [], 0, 0, 12, k1, k2, k5, k6, k7, h5, c1, Nat.zero_le _, hn, .inl rfl⟩
  · exact ⟨g', n, t, d, q, 0, k1, k2, k5, k6, k7, h5, c1.is 300 c1.room (by omega), by have := c1.live; have := c1.most; have := c1.room; omega, hn, .inr ⟨rfl, present_law ⟨k5, by omega⟩ hp k7.ok c1.coset k3⟩⟩
set_option maxRecDepth 100000 in
set_option maxHeartbeats 4000000 in
theorem orders4_any (w : World) (x : Int) (vl : Value) (l : List Int) (hl : IntsAt w vl l) :
    Calls Tryz.prog 4 #[.int .i64 x, vl] w fun e w' => e = .returned (.bool true) ∧ Below w.heap.size w w' := by
  have HL := Lib.hid hl
  obtain ⟨Al, cl, rfl, q1, q2, -⟩ := hl.open_
  have hll0 : (0 : Int) ≤ (l.length : Int) := Int.natCast_nonneg _
  have hll1 : (l.length : Int) ≤ 9223372036854775807 := by omega
  clear hl q1 q2
  by_cases a1 : 30 < (l.length : Int)
  · go_enter Tryz.func4, Tryz.ntmps4
    go_wp2_with fail
    refine (known_walk _).mono ?_
    rintro e v1 ⟨rfl, hb⟩
    have HB1 := Lib.hid hb
    clear hb
    go_wp2_with fail
    go_ret
    exact ⟨rfl, HB1.out⟩
  have a1' : (l.length : Int) ≤ 30 := by omega
  have hl30 : l.length ≤ 30 := by omega
  clear a1
  obtain ⟨g, N, T, d1, k1, e1, hg0, hN0, hL⟩ := orders_all x l
  have HLL := Lib.hid hL
  have HK : Hid (∀ W, Calls Tryz.prog 13 #[.int .i64 x] W fun e w' => (∃ A c, e = .returned (.tuple #[.agg #[.int .i64 (g : Int), .slice A (knownE x).2.1.length c], .int .i64 (N : Int)]) ∧ Tab w' (.slice A (knownE x).2.1.length c) (knownE x).2.1) ∧ Below W.heap.size W w') := Lib.hid fun W => by
    have h := known60_any W x
    rw [hg0, hN0] at h
    exact h.mono fun e w' (⟨⟨A, c, h1, h2⟩, h3⟩ : KnownPost _ _ _ W e w') => ⟨⟨A, c, h1, h2.at_⟩, h3⟩
  have he1 : e1 = 12 ∨ e1 = 0 := by
    rcases hL.cases with h | ⟨h, -⟩
    · exact .inl h
    · exact .inr h
  have H38 : Hid (∀ W Ar cr, Below w.heap.size w W → Tab W (.slice Ar (knownE x).2.1.length cr) (knownE x).2.1 → Calls Tryz.prog 7 #[.agg #[.int .i64 (g : Int), .slice Ar (knownE x).2.1.length cr], .slice Al l.length cl] W fun e w' => (∃ A c, e = .returned (.tuple #[.slice A T.length c, .bool (decide (e1 = 0) && decide (T.length ≤ 40))]) ∧ Tab w' (.slice A T.length c) T) ∧ Below W.heap.size W w') := Lib.hid fun W Ar cr h hR =>
    tabled38_any W _ Ar cr g _ l T d1 k1 e1 ⟨hL.g1, by have := hL.g3; omega⟩ hR (HL.out.below h) (by omega) (fun j => by have := hL.wsub.short j; omega) (fun j => by have := hL.wrel.short j; omega) (by have := hL.wsub.len; omega) hL.enum he1 (by have := hL.tl; omega)
  generalize hbb : (decide (e1 = 0) && decide (T.length ≤ 40)) = bb at *
  have HBB := Lib.hid hbb
  have hg1 : 1 ≤ (g : Int) := by have := hL.g1; omega
  have hg3 : (g : Int) ≤ 3 := by have := hL.g3; omega
  have hN1 : (N : Int) ≤ 1000 := by have := hL.nn; omega
  have hN2 : (0 : Int) ≤ (N : Int) := Int.natCast_nonneg _
  have hT1 : (T.length : Int) ≤ 300 := by have := hL.tl; omega
  have hT2 : (0 : Int) ≤ (T.length : Int) := Int.natCast_nonneg _
  clear hL hg0 hN0 HL he1 hbb
  generalize (knownE x).2.1 = rels at *
  generalize lawWords g 4 l = sub at *
  go_enter Tryz.func4, Tryz.ntmps4
  go_wp2_with fail
  refine (known_walk _).mono ?_
  rintro e v1 ⟨rfl, hb⟩
  have HB1 := Lib.hid hb
  clear hb
  go_wp2_with fail
  refine (HK.out _).mono ?_
  rintro e v2 ⟨⟨A2, c2, rfl, ht⟩, hb⟩
  have HB2 := Lib.hid (bl3 HB1.out hb)
  have HT2 := Lib.hid ht
  clear ht hb
  have HLD := Lib.hid (box40 v2 (.int .i64 (g : Int)) (.slice A2 rels.length c2))
  have hal := (Below.refl v2.heap.size v2).alloc (Nat.le_refl _) (.cells #[.int .i64 (g : Int), .slice A2 rels.length c2] 26)
  have HT3 := Lib.hid (kept_tab.below HT2.out hal)
  have HB3 := Lib.hid (bl3 HB2.out hal)
  have HR3 := Lib.hid (Below.refl (v2.alloc (.cells #[.int .i64 (g : Int), .slice A2 rels.length c2] 26)).heap.size (v2.alloc (.cells #[.int .i64 (g : Int), .slice A2 rels.length c2] 26)))
  clear hal
  go_wp2_with ((with_reducible refine wpList_sel 26 ?_); refine wpList_val rfl (r_loadAt 26 (.tmp 6) _ _ rfl rfl (HLD.out _ HR3.out).1) ?_)
  generalize hw3 : v2.alloc (.cells #[.int .i64 (g : Int), .slice A2 rels.length c2] 26) = v3 at *
  generalize v2.heap.size = B at *
  clear hw3
  refine (H38.out _ _ _ HB3.out HT3.out).mono ?_
  rintro e v4 ⟨⟨A4, c4, rfl, ht⟩, hb⟩
  have HR4 := Lib.hid (bl3 HR3.out hb)
  have HT4 := Lib.hid ht
  have HTR : Hid (∀ W, Below v3.heap.size v3 W → Tab W (.slice A2 rels.length c2) rels) := Lib.hid fun W h => kept_tab.below HT3.out h
  clear ht hb HR3 H38 HK HT3 HT2 HB2 HB1
  cases bb with
  | false =>
    go_wp2_with fail
    go_ret
    exact ⟨rfl, bl3 HB3.out HR4.out⟩
  | true =>
    have he : e1 = 0 := by
      have := HBB.out
      simp only [Bool.and_eq_true, decide_eq_true_eq] at this
      exact this.1
    rcases HLL.out.cases with h | ⟨-, m, q, f, U, d, k, h, hP⟩
    · omega
    have HP := Lib.hid hP
    have H32 : Hid (∀ (W : World) (vr vt : Value), Tab W vr rels → Tab W vt T → Calls Tryz.prog 14 #[.agg #[.int .i64 (g : Int), vr], vt] W fun e w' => (∃ A c, e = .returned (.tuple #[.agg #[.int .i64 m, .slice A q.length c], .int .i64 f]) ∧ Tab w' (.slice A q.length c) q) ∧ Below W.heap.size W w') := Lib.hid fun W vr vt h1 h2 =>
      (present24_any W vr vt g rels T h1 h2).mono fun e w' (⟨⟨u, h3, h4⟩, h5⟩ : PresentPost g rels T W e w') => by
        rw [hP.is] at h3 h4
        obtain ⟨A, c, rfl⟩ := Tab.form h4
        exact ⟨⟨A, c, h3, h4⟩, h5⟩
    have H40b := Lib.hid (enumS m q [] 2000 U d k h hP.enum (fun j => Nat.zero_le _) (Nat.zero_le _))
    have hU1 : (U.length : Int) ≤ 2000 := by have := hP.ul; omega
    have hU2 : (0 : Int) ≤ (U.length : Int) := Int.natCast_nonneg _
    clear HLL hP he HBB
    go_wp2_with ((with_reducible refine wpList_sel 35 ?_); refine wpList_val rfl (r_loadAt 26 (.tmp 6) _ _ rfl rfl (HLD.out _ HR4.out).1) ?_)
    refine (H32.out _ _ _ (HTR.out _ HR4.out) HT4.out).mono ?_
    rintro e v8 ⟨⟨A8, c8, rfl, ht⟩, hb⟩
    have HR8 := Lib.hid (bl3 HR4.out hb)
    have HT8 := Lib.hid ht
    have HLD2 := Lib.hid (box40 v8 (.int .i64 m) (.slice A8 q.length c8))
    have hal := (Below.refl v8.heap.size v8).alloc (Nat.le_refl _) (.cells #[.int .i64 m, .slice A8 q.length c8] 26)
    have HR9 := Lib.hid (bl3 HR8.out hal)
    have HT9 := Lib.hid (kept_tab.below HT8.out hal)
    clear hal ht hb HR8 HT8 H32
    rcases HP.out.cases with rfl | rfl | ⟨rfl, hm⟩
    · go_wp2_with fail
      go_ret
      exact ⟨rfl, bl3 HB3.out HR9.out⟩
    · go_wp2_with fail
      go_ret
      exact ⟨rfl, bl3 HB3.out HR9.out⟩
    · have HRX := Lib.hid (Below.refl (v8.alloc (.cells #[.int .i64 m, .slice A8 q.length c8] 26)).heap.size (v8.alloc (.cells #[.int .i64 m, .slice A8 q.length c8] 26)))
      go_wp2_with ((with_reducible refine wpList_sel 52 ?_); refine wpList_val rfl (r_loadAt 26 (.tmp 10) _ _ rfl rfl (HLD2.out _ HRX.out).1) ?_)
      generalize hw9 : v8.alloc (.cells #[.int .i64 m, .slice A8 q.length c8] 26) = v9 at *
      generalize v8.heap.size = B2 at *
      clear hw9
      refine (H40b.out _ _ _ HT9.out tab_nil).mono ?_
      rintro e v10 ⟨⟨u10, rfl, ht⟩, hb⟩
      obtain ⟨A10, c10, rfl⟩ := Tab.form ht
      have hal := (Below.refl v10.heap.size v10).alloc (Nat.le_refl _) (.cells #[.int .i64 d, .int .i64 k, .int .i64 0] 41)
      have HR11 := Lib.hid (bl3 HR9.out (bl3 hb hal))
      clear hal hb ht H40b
      rcases HP.out.fin rfl with rfl | ⟨rfl, hmul⟩
      · clear HP
        go_wp2_with fail
        go_ret
        exact ⟨rfl, bl3 HB3.out HR11.out⟩
      · have hmul' : (U.length : Int) * (T.length : Int) = (N : Int) := by rw [← hmul]; simp
        clear HP hmul
        go_wp2_with fail
        go_ret
        exact ⟨rfl, bl3 HB3.out HR11.out⟩
end Go.Proofs
namespace Go.Proofs
open Go.RowKit Go.ChangeShapes Go.WideShapes Go.ChangeAt Go.Deep
section
variable {H : Type} {enc : TypeId × Value → H} {W : World}
theorem spot_none {a : Addr} {v : Value} (h : W.cell? (a.add 0) = some v) : a = ⟨a.block, a.off, none⟩ := by
  obtain ⟨b, o, s⟩ := a
  cases s with
  | none => rfl
  | some q =>
    exfalso
    have e : ({ block := b, off := o, spot := some q } : Addr).add 0 = { block := b, off := o, spot := some q } := by unfold Addr.add; rw [if_pos rfl]
    rw [e] at h
    unfold World.cell? at h
    simp only [Option.isSome_some, if_true] at h
    split at h <;> cases h
theorem wf_fits {x : Int} (h : (Lit.int .i64 x).wf = true) : -9223372036854775808 ≤ x ∧ x ≤ 9223372036854775807 := by
  simpa [Lit.wf, IntKind.min, IntKind.max, IntKind.signed, IntKind.bits] using h
theorem lat_of_trod {α : Type} {R : World → Value → α → Prop} {d : α} {t e : TypeId} {base fuel : Nat} {spare : Nat → Bool} {held : Bool} {v : Value} {x : DataW H × List MemPlace} (ht : Tryz.prog.underlying t = some (.slice e)) (hc : Tryz.prog.cellsOf e = 1)
    (hR : ∀ n u y, DataW.trod enc Tryz.prog W base spare held n e [u] = some y → ∃ z, R W u z) (h : DataW.trod enc Tryz.prog W base spare held fuel t [v] = some x) : ∃ xs, LAt R d W v xs := by
  rcases open_slice1 ht hc h with ⟨hv, -⟩ | ⟨a, len, cap, m, n, V, D, Pl, hv, -, hl, hm, hmm, -, hx⟩
  · obtain rfl : v = .slice none 0 0 := by simpa using hv
    exact ⟨[], [], ⟨none, 0, 0, rfl, rfl, Nat.le_refl _, by simp [maxLen], fun h => absurd h (by simp)⟩, rfl, fun i hi => absurd hi (by simp)⟩
  · obtain rfl : v = .slice (some a) len cap := by simpa using hv
    have hlm : len ≤ m := by rw [hmm]; split <;> omega
    have hz : ∀ i, i < len → ∃ z, R W (V i) z := fun i hi => hR n (V i) _ (hx i (by omega)).2
    have hf : ∃ f : Nat → α, ∀ i, i < len → R W (V i) (f i) := by
      have hz' : ∀ i, ∃ z, i < len → R W (V i) z := fun i => by
        by_cases hi : i < len
        · obtain ⟨z, hz⟩ := hz i hi; exact ⟨z, fun _ => hz⟩
        · exact ⟨d, fun h => absurd h hi⟩
      exact ⟨fun i => Classical.choose (hz' i), fun i => Classical.choose_spec (hz' i)⟩
    obtain ⟨f, hf⟩ := hf
    refine ⟨(List.range len).map f, (List.range len).map V, ⟨_, len, cap, rfl, by simp, hl, hm, fun h0 => ?_⟩, by simp, fun i hi => ?_⟩
    · have hsp := spot_none (hx 0 (by omega)).1
      refine ⟨a.block, a.off, by rw [← hsp], fun j u hu => ?_⟩
      have hj : j < len := by have := (List.getElem?_eq_some_iff.1 hu).1; simpa using this
      have := (hx j (by omega)).1
      rw [hsp, Addr.add_lit] at this
      rw [this, ← hu]
      simp [List.getElem?_range hj]
    · have hi' : i < len := by simpa using hi
      refine ⟨V i, by simp [List.getElem?_range hi'], ?_⟩
      have : ((List.range len).map f).getD i d = f i := by simp [List.getD_eq_getElem?_getD, List.getElem?_range hi']
      rw [this]
      exact hf i hi'
theorem intsT_of_trod {t : TypeId} (ht : Tryz.prog.underlying t = some (.slice 3)) {base fuel : Nat} {spare : Nat → Bool} {held : Bool} {v : Value} {x : DataW H × List MemPlace} (h : DataW.trod enc Tryz.prog W base spare held fuel t [v] = some x) : ∃ xs, IntsAt W v xs := by
  obtain ⟨xs, vs, hS, hl, he⟩ := lat_of_trod (R := fun _ u z => u = .int .i64 z ∧ (Lit.int .i64 z).wf = true) (d := 0) ht (by kernel_rfl) (fun n u y hy => by
    obtain ⟨m, hu, -, hw⟩ := DataW.trod_int Tryz.underlying3 hy
    exact ⟨m, by simpa using hu, hw⟩) h
  have hvs : vs = ints xs := by
    apply List.ext_getElem (by simpa [ints] using hl)
    intro i h1 h2
    obtain ⟨u, hu, rfl, -⟩ := he i (by omega)
    have hi : i < xs.length := by omega
    rw [List.getElem?_eq_getElem h1] at hu
    rw [Option.some.inj hu]
    simp [ints, List.getD_eq_getElem?_getD, hi]
  refine ⟨xs, hvs ▸ hS, fun z hz => ?_⟩
  obtain ⟨i, hi, rfl⟩ := List.getElem_of_mem hz
  obtain ⟨u, -, -, hw⟩ := he i hi
  have e : xs.getD i 0 = xs[i] := by simp [List.getD_eq_getElem?_getD, hi]
  rw [e] at hw
  exact wf_fits hw
theorem ints_of_trod {base fuel : Nat} {spare : Nat → Bool} {held : Bool} {v : Value} {x : DataW H × List MemPlace} (h : DataW.trod enc Tryz.prog W base spare held fuel 22 [v] = some x) : ∃ xs, IntsAt W v xs := intsT_of_trod Tryz.underlying22 h
end
end Go.Proofs
namespace Go.Proofs.YtmpnengjboabcaaGreat
open Go.ChangeShapes Go.WideShapes Go.ChangeAt Go.RowKit
theorem fac_k25 : (Tryz.prog.mayEnter) = true := by kernel_rfl
end Go.Proofs.YtmpnengjboabcaaGreat
namespace Go.Proofs.YtmpnengjboabcaaGreat
open Go.ChangeShapes Go.WideShapes Go.ChangeAt Go.RowKit
theorem fac_k26 : ((Rows.rewriteOrdersRow.lifted == Tryz.prog.liftsFinal)) = true := by kernel_rfl
end Go.Proofs.YtmpnengjboabcaaGreat
namespace Go.Proofs.YtmpnengjboabcaaGreat
open Go.ChangeShapes Go.WideShapes Go.ChangeAt Go.RowKit
theorem fac_k27 : ((Tryz.prog.make == some Rows.rewriteOrdersRow.make)) = true := by kernel_rfl
end Go.Proofs.YtmpnengjboabcaaGreat
namespace Go.Proofs.YtmpnengjboabcaaGreat
open Go.ChangeShapes Go.WideShapes Go.ChangeAt Go.RowKit
theorem fac_k1 : (laidOutB Tryz.prog) = true := by kernel_rfl
theorem fac_k2 : (mapsRowed Tryz.prog) = true := by kernel_rfl
theorem fac_k24 : (Tryz.prog.stopsHeard) = true := by kernel_rfl
end Go.Proofs.YtmpnengjboabcaaGreat
namespace Go.Proofs.YtmpnengjboabcaaGreat
theorem and_mk {a b : Bool} (h : a = true) (k : b = true) : (a && b) = true := by rw [h, k]; rfl
theorem joined_mk {P : Program} {f : FuncId} {fn : Func} {s : ChangeSpec} {c : OpenClaim} (k0 : (c.wf (OpenSpec.ofChange s)) = true) (k1 : (laidOutB P) = true) (k2 : (mapsRowed P) = true) (k3 : (fn.params.all (P.readableRec ·)) = true) (k4 : (namedTie P c.named s.vars) = true) (k5 : ((c.stops == [])) = true) (k6 : ((P.stops == [])) = true) (k7 : ((c.knobs == [])) = true) (k8 : ((P.stopKnobs == [])) = true) (k9 : ((c.inPlace == P.inPlace f)) = true) (k10 : ((c.unfollowed == P.unfollowed f)) = true) (k11 : ((c.recurses == P.recurses f)) = true) (k12 : ((c.named == P.varsNamed f)) = true) (k13 : ((c.maps == (fn.params.toList ++ s.plain.varTypes P).any (P.mapsRec ·))) = true) (k14 : ((c.ifaces == (fn.params.toList ++ s.plain.varTypes P).any (P.ifacesRec ·))) = true) (k15 : ((c.mapsOut == P.mapsAmong fn.resultTypes.toList)) = true) (k16 : ((c.loops == (fn.params.toList ++ s.plain.varTypes P).any (P.loopsFrom ·))) = true) (k17 : ((c.wideKeys == (fn.params.toList ++ s.plain.varTypes P ++ fn.resultTypes.toList).any (P.wideKeysFrom ·))) = true) (k18 : (s.vars.all (P.varReadable ·)) = true) (k19 : (fn.resultTypes.all (fun t => P.readableRec t && decide (t < P.types.size))) = true) (k20 : ((c.ifacesOut == fn.resultTypes.toList.any (P.ifacesRec ·))) = true) (k21 : ((c.loopsOut == fn.resultTypes.toList.any (P.loopsFrom ·))) = true) (k22 : ((c.plainKeys == P.plainKeys)) = true) (k23 : (c.shortTexts.isNone) = true) (k24 : (P.stopsHeard) = true) (k25 : (P.mayEnter) = true) (k26 : ((c.lifted == P.liftsFinal)) = true) (k27 : ((P.make == some c.make)) = true) (k28 : ((c.domain.isEmpty && c.kinds == [])) = true) (k29 : ((c.pinned == c.pinnedBy)) = true) (k30 : ((c.veiled == (fn.params.toList ++ s.plain.varTypes P ++ fn.resultTypes.toList).any (P.veiledRec ·))) = true) (k31 : (c.veiledFits P fn.params.toList (fn.params.toList ++ s.plain.varTypes P ++ fn.resultTypes.toList)) = true) : joinedFacts P f fn s c = true := by
  have q28 := k28
  rw [Bool.and_eq_true, beq_iff_eq] at q28
  unfold joinedFacts
  refine (and_mk (and_mk (and_mk (and_mk (and_mk (and_mk (and_mk (and_mk (and_mk (and_mk (and_mk (and_mk (and_mk (and_mk (and_mk (and_mk (and_mk (and_mk (and_mk (and_mk (and_mk (and_mk (and_mk (and_mk (and_mk (and_mk (and_mk (and_mk (and_mk (and_mk (and_mk k0 k1) k2) k3) k4) k5) k6) k7) k8) k9) k10) k11) k12) k13) k14) k15) k16) k17) k18) k19) k20) k21) k22) k23) k24) k25) k26) k27) ?_) k29) k30) k31)
  rw [if_pos q28.1, q28.2]
  rfl
end Go.Proofs.YtmpnengjboabcaaGreat
