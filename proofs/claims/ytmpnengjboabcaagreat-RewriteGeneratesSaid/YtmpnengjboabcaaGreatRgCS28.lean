/- Schreier generators, plainly: how many there are, and that they generate the subgroup (the law of RewriteGenerates); What RewriteGenerates, RewriteOrders and TopPresent meet, plainly; The walk of RewriteGenerates (printed by genV4.py); Arguments opened: lists of numbers, tables, presentations; Closed facts of the program (A); Closed facts of the program (B); Closed facts of the program (C); Closed facts of the program (D); The closed facts of a statement, one by one. -/
import Derived.Test.YtmpnengjboabcaaGreatRgCS27
import Derived.Test.YtmpnengjboabcaaGreatRgCS26
import Derived.Test.YtmpnengjboabcaaGreatRgCS1
import Derived.Test.YtmpnengjboabcaaGreatRgCS8
import Derived.Test.YtmpnengjboabcaaGreatRgCS12
import Derived.Test.YtmpnengjboabcaaGreatRgCS23
import Derived.Test.YtmpnengjboabcaaGreatRgCS13
import Derived.Test.YtmpnengjboabcaaGreatRgCS3
import Derived.ProofKit
import Derived.Deep.Slices
import Derived.Deep.Strs
import Derived.Test.YtmpnengjboabcaaGreatRows
import Derived.Test.YtmpnengjboabcaaGreatChecked
import Derived.OpenShut
import Derived.JoinedOf
namespace Go.Proofs.Ct
section
variable {g : Nat} {α : Type} {D : α → Prop} {act : α → Nat → α} {rels : List W}
theorem lok_redP {a : W} (h : LOk g a) : LOk g (red a) := fun x hx => h x (red_mem hx)
theorem Mdl.back (h : Mdl g rels D act) {p : α} (hp : D p) {x : Int} (hx : -(g : Int) ≤ x ∧ x ≤ g ∧ x ≠ 0) : act (act p (col x)) (col (-x)) = p := by
  rw [col_inv hx.2.2]
  exact h.inv p _ hp (col_ltL hx)
theorem Mdl.redW (h : Mdl g rels D act) {p : α} (hp : D p) : ∀ (n : Nat) (u : W), u.length = n → LOk g u → actW act p (red u) = actW act p u
  | 0, u, hu, _ => by rw [List.length_eq_zero_iff.1 hu]; rfl
  | n + 1, u, hu, hz => by
    rcases List.eq_nil_or_concat u with rfl | ⟨c, x, rfl⟩
    · cases hu
    · rw [List.concat_eq_append] at hu hz ⊢
      have hc : LOk g c := fun y hy => hz y (List.mem_append_left _ hy)
      have hx := hz x (List.mem_append_right _ (List.mem_singleton_self _))
      have ih := Mdl.redW h hp n c (by simpa using hu) hc
      rw [red_snoc, actW_app, ← ih]
      have hr := lok_redP hc
      generalize red c = s at *
      rcases List.eq_nil_or_concat s with rfl | ⟨d, y, rfl⟩
      · rw [push_nil]; rfl
      · rw [List.concat_eq_append] at hr ⊢
        rw [push_snoc]
        split
        · rename_i ho
          obtain ⟨h1, h2⟩ := opp_iff.1 ho
          subst h2
          have hd : LOk g d := fun z hz => hr z (List.mem_append_left _ hz)
          rw [actW_app]
          exact (h.back (h.clW hd hp) (hr y (List.mem_append_right _ (List.mem_singleton_self _)))).symm
        · rw [actW_app]
theorem Mdl.fe (h : Mdl g rels D act) {p : α} (hp : D p) {u v : W} (hu : LOk g u) (hv : LOk g v) (e : Fe u v) : actW act p u = actW act p v := by
  rw [← h.redW hp _ u rfl hu, ← h.redW hp _ v rfl hv, e]
theorem Full.free {t : Tb} (h : Full g t) : Mdl g [] (fun x => x < t.length) (Ct.nx t) := h.mdl (fun _j hj => absurd hj (Nat.not_lt_zero _)) fun _ _ _j hj => absurd hj (Nat.not_lt_zero _)
theorem Mdl.fixS (h : Mdl g rels D act) {p : α} (hp : D p) {G : List W} (hG : ∀ j, LOk g (G.getD j [])) (hf : ∀ j, j < G.length → actW act p (G.getD j []) = p) : ∀ v : W, LOk g (wordS G v) ∧ actW act p (wordS G v) = p
  | [] => ⟨LOk.nil, rfl⟩
  | x :: v => by
    obtain ⟨i1, i2⟩ := Mdl.fixS h hp hG hf v
    have hf' : ∀ j, actW act p (G.getD j []) = p := fun j => by
      rcases Nat.lt_or_ge j G.length with hj | hj
      · exact hf j hj
      · rw [List.getD_eq_getElem?_getD, List.getElem?_eq_none hj]; rfl
    have e : wordS G (x :: v) = word1 G x ++ wordS G v := rfl
    have h1 : LOk g (word1 G x) ∧ actW act p (word1 G x) = p := by
      unfold word1
      split
      · exact ⟨hG _, hf' _⟩
      · refine ⟨(hG _).inv, ?_⟩
        have := h.invW (hG (-x - 1).toNat) hp
        rw [hf'] at this
        exact this
    rw [e, actW_app, h1.2, i2]
    exact ⟨h1.1.app i1, rfl⟩
end
section
variable {g : Nat} {t : Tb}
theorem reps_nil (ht : Full g t) (hs : std t 0 = some t) : (reps t).getD 0 [] = [] := by
  rcases reps_grown ht hs 0 (by rw [reps_len ht hs]; exact ht.good.n1) with ⟨-, e⟩ | ⟨i, c, h, -⟩
  · exact e
  · exact absurd h (Nat.not_lt_zero _)
def tp (t : Tb) (j : Nat) : Nat × Nat :=
  if col (((reps t).getD j []).getLastD 0) % 2 = 0 then (nx t j (flp (col (((reps t).getD j []).getLastD 0))), col (((reps t).getD j []).getLastD 0) / 2) else (j, col (((reps t).getD j []).getLastD 0) / 2)
structure TP (g : Nat) (t : Tb) (j i c : Nat) : Prop where
  ij : i < j
  hc : c < 2 * g
  e : t.at i c = (j : Int)
  r : (reps t).getD j [] = (reps t).getD i [] ++ [letter c]
  is : tp t j = if c % 2 = 0 then (i, c / 2) else (j, c / 2)
theorem eback_nx (ht : Full g t) {i c j : Nat} (hi : i < t.length) (hc : c < 2 * g) (e : t.at i c = (j : Int)) : nx t j (flp c) = i := by
  have h3 := ht.good.eback hi hc e
  unfold nx
  rw [show t.at j (flp c) = (i : Int) from h3]
  rfl
theorem tp_of (ht : Full g t) {i j c : Nat} (hi : i < t.length) (hc : c < 2 * g) (e : t.at i c = (j : Int)) (r : (reps t).getD j [] = (reps t).getD i [] ++ [letter c]) : tp t j = if c % 2 = 0 then (i, c / 2) else (j, c / 2) := by
  unfold tp
  rw [r, List.getLastD_concat, col_letter, eback_nx ht hi hc e]
theorem tp_at (ht : Full g t) (hs : std t 0 = some t) {j : Nat} (h0 : 0 < j) (hj : j < t.length) : ∃ i c, TP g t j i c := by
  rcases reps_grown ht hs j (by rw [reps_len ht hs]; exact hj) with ⟨e, -⟩ | ⟨i, c, h1, h2, h3, h4⟩
  · omega
  · exact ⟨i, c, h1, h2, h3, h4, tp_of ht (by omega) h2 h3 h4⟩
theorem tp_inj (ht : Full g t) (hs : std t 0 = some t) {j k : Nat} (h0 : 0 < j) (hj : j < t.length) (k0 : 0 < k) (hk : k < t.length) (e : tp t j = tp t k) : j = k := by
  obtain ⟨i, c, a1, a2, a3, a4, a5⟩ := tp_at ht hs h0 hj
  obtain ⟨m, d, b1, b2, b3, b4, b5⟩ := tp_at ht hs k0 hk
  rw [a5, b5] at e
  by_cases p : c % 2 = 0 <;> by_cases q : d % 2 = 0
  · rw [if_pos p, if_pos q] at e
    obtain ⟨e1, e2⟩ := Prod.mk.inj e
    subst e1
    have : c = d := by omega
    subst this
    have := a3.symm.trans b3
    omega
  · rw [if_pos p, if_neg q] at e
    obtain ⟨e1, e2⟩ := Prod.mk.inj e
    subst e1
    have h1 := eback_nx ht (by omega) b2 b3
    have h2 : flp d = c := by unfold flp; rw [if_neg q]; omega
    rw [h2] at h1
    unfold nx at h1
    rw [a3] at h1
    have : (j : Int).toNat = j := rfl
    omega
  · rw [if_neg p, if_pos q] at e
    obtain ⟨e1, e2⟩ := Prod.mk.inj e
    subst e1
    have h1 := eback_nx ht (by omega) a2 a3
    have h2 : flp c = d := by unfold flp; rw [if_neg p]; omega
    rw [h2] at h1
    unfold nx at h1
    rw [b3] at h1
    have : (k : Int).toNat = k := rfl
    omega
  · rw [if_neg p, if_neg q] at e
    exact (Prod.mk.inj e).1
theorem tp_nt (ht : Full g t) (hs : std t 0 = some t) {j : Nat} (h0 : 0 < j) (hj : j < t.length) : (tp t j).1 < t.length ∧ (tp t j).2 < g ∧ nt t (reps t) (tp t j).1 (tp t j).2 = false := by
  obtain ⟨i, c, a1, a2, a3, a4, a5⟩ := tp_at ht hs h0 hj
  rw [a5]
  by_cases p : c % 2 = 0
  · rw [if_pos p]
    refine ⟨by show i < _; omega, by show c / 2 < g; omega, ?_⟩
    show nt t (reps t) i (c / 2) = false
    have hd : dest t i (c / 2) = j := by
      unfold dest
      rw [show 2 * (c / 2) = c by omega, a3]
      rfl
    have e : letter c = (c / 2 : Nat) + 1 := by unfold letter; rw [if_neg (by omega)]
    unfold nt
    rw [hd, a4, e]
    simp
  · rw [if_neg p]
    refine ⟨hj, by show c / 2 < g; omega, ?_⟩
    show nt t (reps t) j (c / 2) = false
    have hd : dest t j (c / 2) = i := by
      have h3 := ht.good.eback (by omega) a2 a3
      have e3 : flp c = 2 * (c / 2) := by unfold flp; rw [if_neg p]; omega
      unfold dest
      have h4 : t.at j (flp c) = (i : Int) := h3
      rw [e3] at h4
      rw [h4]
      rfl
    have e : letter c = -((c / 2 : Nat) + 1) := by unfold letter; rw [if_pos (by omega)]
    unfold nt
    rw [hd, a4, e]
    simp
theorem nt_tp (ht : Full g t) (hs : std t 0 = some t) {r h : Nat} (hr : r < t.length) (hh : h < g) (hn : nt t (reps t) r h = false) : ∃ j, 0 < j ∧ j < t.length ∧ tp t j = (r, h) := by
  obtain ⟨d1, d2⟩ := ht.nx hr (show 2 * h < 2 * g by omega)
  have hd : dest t r h = nx t r (2 * h) := rfl
  have he : t.at r (2 * h) = ((nx t r (2 * h) : Nat) : Int) := d2
  unfold nt at hn
  rw [hd] at hn
  generalize nx t r (2 * h) = d at *
  have l1 : letter (2 * h) = ((h + 1 : Nat) : Int) := by unfold letter; rw [if_neg (by omega)]; omega
  have l2 : letter (2 * h + 1) = -((h + 1 : Nat) : Int) := by unfold letter; rw [if_pos (by omega)]; omega
  have h0 := reps_nil ht hs
  have hor : (reps t).getD d [] = (reps t).getD r [] ++ [((h + 1 : Nat) : Int)] ∨ (reps t).getD r [] = (reps t).getD d [] ++ [-((h + 1 : Nat) : Int)] := by
    rcases Bool.and_eq_false_iff.1 hn with h | h
    · exact .inl (by simpa using h)
    · exact .inr (by simpa using h)
  rcases hor with h1 | h1
  · refine ⟨d, ?_, d1, ?_⟩
    · rcases Nat.eq_zero_or_pos d with e | e
      · rw [e, h0] at h1
        simp at h1
      · exact e
    · rw [tp_of ht hr (by omega) he (by rw [h1, l1]), if_pos (by omega)]
      simp
  · refine ⟨r, ?_, hr, ?_⟩
    · rcases Nat.eq_zero_or_pos r with e | e
      · rw [e, h0] at h1
        simp at h1
      · exact e
    · have h3 := ht.good.eback hr (show 2 * h < 2 * g by omega) he
      have e3 : flp (2 * h) = 2 * h + 1 := by unfold flp; rw [if_pos (by omega)]
      have h4 : t.at d (2 * h + 1) = (r : Int) := by rw [← e3]; exact h3
      rw [tp_of ht d1 (by omega) h4 (by rw [h1, l2]), if_neg (by omega)]
      simp
      omega
theorem nt_mem {R : List W} {r h : Nat} (hr : r < t.length) (hh : h < g) (hn : nt t R r h = true) : (r, h) ∈ pairs t R g := by
  refine Decidable.byContradiction fun hm => ?_
  have h1 := place_number (t := t) (R := R) (gens := g) hr hh
  have h2 : placeP (pairTo t R g t.length) r h = 0 := if_neg hm
  rw [h2] at h1
  unfold number at h1
  rw [if_pos hn, pairRow_succ, if_pos hn, List.length_append] at h1
  simp at h1
  omega
theorem nodup_map_of {β : Type} {f : β → Nat} : ∀ {l : List β}, (∀ x ∈ l, ∀ y ∈ l, f x = f y → x = y) → l.Nodup → (l.map f).Nodup
  | [], _, _ => List.nodup_nil
  | x :: l, h, hn => by
    obtain ⟨h1, h2⟩ := List.nodup_cons.1 hn
    rw [List.map_cons, List.nodup_cons]
    refine ⟨fun hm => ?_, nodup_map_of (fun a ha b hb => h a (List.mem_cons_of_mem _ ha) b (List.mem_cons_of_mem _ hb)) h2⟩
    obtain ⟨y, hy, e⟩ := List.mem_map.1 hm
    have := h y (List.mem_cons_of_mem _ hy) x (List.mem_cons_self ..) e
    rw [this] at hy
    exact h1 hy
def enc (g : Nat) (p : Nat × Nat) : Nat := p.1 * g + p.2
theorem enc_inj {p q : Nat × Nat} (hp : p.2 < g) (hq : q.2 < g) (e : enc g p = enc g q) : p = q := by
  unfold enc at e
  have h1 : (p.1 * g + p.2) / g = p.1 := by rw [Nat.mul_comm, Nat.mul_add_div (by omega), Nat.div_eq_of_lt hp]; rfl
  have h2 : (q.1 * g + q.2) / g = q.1 := by rw [Nat.mul_comm, Nat.mul_add_div (by omega), Nat.div_eq_of_lt hq]; rfl
  have h3 : p.1 = q.1 := by rw [← h1, e, h2]
  rw [h3] at e
  exact Prod.ext h3 (by omega)
theorem enc_lt {n : Nat} {p : Nat × Nat} (h1 : p.1 < n) (h2 : p.2 < g) : enc g p < n * g := by
  unfold enc
  calc p.1 * g + p.2 < p.1 * g + g := by omega
    _ = (p.1 + 1) * g := by rw [Nat.add_mul, Nat.one_mul]
    _ ≤ n * g := Nat.mul_le_mul_right _ h1
theorem pairs_count (ht : Full g t) (hs : std t 0 = some t) : (pairs t (reps t) g).length + (t.length - 1) = t.length * g := by
  have hn1 := ht.good.n1
  have hg1 := ht.good.g1
  have hps : ∀ p ∈ pairs t (reps t) g, p.1 < t.length ∧ p.2 < g ∧ nt t (reps t) p.1 p.2 = true := fun p hp => mem_pairTo hp
  have hA : ((pairs t (reps t) g).map (enc g) ++ (List.range (t.length - 1)).map fun j => enc g (tp t (j + 1))).Nodup := by
    refine List.nodup_append.2 ⟨nodup_map_of (fun x hx y hy e => enc_inj (hps x hx).2.1 (hps y hy).2.1 e) (pairTo_nodup g _), nodup_map_on (fun x hx y hy e => ?_) List.nodup_range, fun a ha b hb e => ?_⟩
    · have hx' := List.mem_range.1 hx
      have hy' := List.mem_range.1 hy
      have h1 := tp_nt ht hs (j := x + 1) (by omega) (by omega)
      have h2 := tp_nt ht hs (j := y + 1) (by omega) (by omega)
      have := tp_inj ht hs (by omega) (by omega) (by omega) (by omega) (enc_inj h1.2.1 h2.2.1 e)
      omega
    · obtain ⟨p, hp, rfl⟩ := List.mem_map.1 ha
      obtain ⟨j, hj, rfl⟩ := List.mem_map.1 hb
      have hj' := List.mem_range.1 hj
      have h1 := tp_nt ht hs (j := j + 1) (by omega) (by omega)
      have h2 := enc_inj (hps p hp).2.1 h1.2.1 e
      have h3 := (hps p hp).2.2
      rw [h2, h1.2.2] at h3
      cases h3
  have h1 := len_le_of_sub (b := List.range (t.length * g)) hA (fun x hx => by
    rw [List.mem_range]
    rcases List.mem_append.1 hx with hx | hx
    · obtain ⟨p, hp, rfl⟩ := List.mem_map.1 hx
      exact enc_lt (hps p hp).1 (hps p hp).2.1
    · obtain ⟨j, hj, rfl⟩ := List.mem_map.1 hx
      have hj' := List.mem_range.1 hj
      have h1 := tp_nt ht hs (j := j + 1) (by omega) (by omega)
      exact enc_lt h1.1 h1.2.1)
  have h2 := len_le_of_sub (a := List.range (t.length * g)) (b := (pairs t (reps t) g).map (enc g) ++ (List.range (t.length - 1)).map fun j => enc g (tp t (j + 1))) List.nodup_range (fun x hx => by
    rw [List.mem_range] at hx
    have hr : x / g < t.length := (Nat.div_lt_iff_lt_mul (by omega)).2 hx
    have hh : x % g < g := Nat.mod_lt _ (by omega)
    have hx' : enc g (x / g, x % g) = x := by unfold enc; rw [Nat.mul_comm]; exact Nat.div_add_mod x g
    rw [List.mem_append]
    cases hn : nt t (reps t) (x / g) (x % g) with
    | true => exact .inl (List.mem_map.2 ⟨_, nt_mem hr hh hn, hx'⟩)
    | false =>
      obtain ⟨j, h0, hj, e⟩ := nt_tp ht hs hr hh hn
      refine .inr (List.mem_map.2 ⟨j - 1, List.mem_range.2 (by omega), ?_⟩)
      show enc g (tp t (j - 1 + 1)) = x
      rw [show j - 1 + 1 = j by omega, e, hx'])
  simp only [List.length_append, List.length_map, List.length_range] at h1 h2
  omega
theorem pairs_many (ht : Full g t) (hs : std t 0 = some t) : (pairs t (reps t) g).length = t.length * (g - 1) + 1 := by
  have h := pairs_count ht hs
  have hn1 := ht.good.n1
  have hg1 := ht.good.g1
  obtain ⟨k, rfl⟩ : ∃ k, g = k + 1 := ⟨g - 1, by omega⟩
  rw [Nat.mul_add, Nat.mul_one] at h
  show _ = t.length * k + 1
  omega
theorem gens_fix (ht : Full g t) (hs : std t 0 = some t) (j : Nat) : actW (nx t) 0 ((gensW t (reps t) g).getD j []) = 0 := by
  rcases Nat.lt_or_ge j (pairs t (reps t) g).length with hj | hj
  · rw [gensW_get hj]
    have hR := reps_ok ht
    obtain ⟨h1, h2, -⟩ := pairs_get hj
    generalize (pairs t (reps t) g).getD j (0, 0) = p at *
    obtain ⟨r, k⟩ := p
    have h1' : r < t.length := h1
    have hx := gen_ok (g := g) (h := k) h2
    have hd := (ht.nx h1' (col_ltL hx)).1
    have hA : LOk g ((reps t).getD r [] ++ [((k + 1 : Nat) : Int)] ++ inv ((reps t).getD (nx t r (col ((k + 1 : Nat) : Int))) [])) := ((hR r).app (fun z hz => by rw [List.mem_singleton.1 hz]; exact hx)).app (hR _).inv
    rw [ht.free.fe ht.good.n1 (schr_ok hR h2) hA (schr_fe hR h2), actW_app, actW_app, (rl_rep ht hs r h1').2]
    show actW (nx t) (nx t r (col ((k + 1 : Nat) : Int))) _ = 0
    have h3 := ht.free.invW (hR (nx t r (col ((k + 1 : Nat) : Int)))) ht.good.n1
    rw [(rl_rep ht hs _ hd).2] at h3
    exact h3
  · rw [List.getD_eq_getElem?_getD, List.getElem?_eq_none (by rw [length_gensW]; exact hj)]
    rfl
theorem gens_table (ht : Full g t) (hs : std t 0 = some t) {u : Tb} (hu : Coset g [] (gensW t (reps t) g) u) : u = t := by
  have hR := reps_ok ht
  have hG := gensW_ok (t := t) (g := g) hR
  have h0 := reps_nil ht hs
  obtain ⟨φ, hφ, hφ0⟩ := hu.mapTo (fun j hj => absurd hj (Nat.not_lt_zero _)) (fun j _ => hG j) ht (fun _ _ j hj => absurd hj (Nat.not_lt_zero _)) (b := 0) ht.good.n1 (fun j _ => by
    have := (ht.way (hG j) ht.good.n1).2
    rwa [gens_fix ht hs j] at this)
  have hMu := hu.full.free
  have hfix : ∀ j, j < (gensW t (reps t) g).length → actW (nx u) 0 ((gensW t (reps t) g).getD j []) = 0 := fun j hj => hu.full.actW_of (hG j) hu.full.good.n1 (hu.subc j hj)
  have hψ : Hm g t u (fun x => actW (nx u) 0 ((reps t).getD x [])) := by
    refine ⟨fun x _ => (hu.full.way (hR x) hu.full.good.n1).1, fun x c y hx hc he => ?_⟩
    have hl : LOk g [letter c] := fun z hz => by rw [List.mem_singleton.1 hz]; have := letter_range hc; omega
    have hlx := hl (letter c) (List.mem_singleton_self _)
    have hy : nx t x (col (letter c)) = y := by
      rw [col_letter]
      unfold nx
      rw [show t.at x c = (y : Int) from he]
      rfl
    have h1 := oneL_fe (R := reps t) ht hR hx hlx
    rw [hy] at h1
    obtain ⟨h2, h3⟩ := hMu.fixS hu.full.good.n1 hG hfix (oneL t (reps t) g x (letter c))
    have h4 := hMu.fe hu.full.good.n1 h2 (((hR x).app hl).app (hR y).inv) h1
    rw [h3, actW_app, actW_app] at h4
    have hxw := (hu.full.way (hR x) hu.full.good.n1).1
    have hstep := hu.full.nx hxw hc
    show Edge u (actW (nx u) 0 ((reps t).getD x [])) c (actW (nx u) 0 ((reps t).getD y []))
    have e1 : actW (nx u) (actW (nx u) 0 ((reps t).getD x [])) [letter c] = nx u (actW (nx u) 0 ((reps t).getD x [])) c := by
      show nx u _ (col (letter c)) = _
      rw [col_letter]
    rw [e1] at h4
    have h5 := hMu.invW (hR y).inv hstep.1
    rw [← h4] at h5
    rw [inv_inv] at h5
    rw [h5]
    exact hstep.2
  have hψ0 : actW (nx u) 0 ((reps t).getD 0 []) = 0 := by rw [h0]; rfl
  have hinj := Hm.inj hu.full hφ hψ (by show actW (nx u) 0 ((reps t).getD (φ 0) []) = 0; rw [hφ0]; exact hψ0)
  have hinj2 := Hm.inj ht hψ hφ (by show φ (actW (nx u) 0 ((reps t).getD 0 [])) = 0; rw [hψ0]; exact hφ0)
  have l1 : u.length ≤ t.length := by
    have := len_le_of_sub (a := (List.range u.length).map φ) (b := List.range t.length) (nodup_map_on (fun x hx y hy e => hinj x y (List.mem_range.1 hx) (List.mem_range.1 hy) e) List.nodup_range) (fun x hx => by
      obtain ⟨y, hy, rfl⟩ := List.mem_map.1 hx
      exact List.mem_range.2 (hφ.lt y (List.mem_range.1 hy)))
    simpa using this
  have l2 : t.length ≤ u.length := by
    have := len_le_of_sub (a := (List.range t.length).map fun x => actW (nx u) 0 ((reps t).getD x [])) (b := List.range u.length) (nodup_map_on (fun x hx y hy e => hinj2 x y (List.mem_range.1 hx) (List.mem_range.1 hy) e) List.nodup_range) (fun x hx => by
      obtain ⟨y, hy, rfl⟩ := List.mem_map.1 hx
      exact List.mem_range.2 (hψ.lt y (List.mem_range.1 hy)))
    simpa using this
  exact std_eq hu.full ht hu.std hs hφ hφ0 hinj (by omega)
end
end Go.Proofs.Ct
namespace Go.Proofs
open Go.RowKit Go.Shelf Go.Proofs.Ct Go.Maps
structure GenL (g : Nat) (t : Tb) (U : Tb) (d k h : Int) : Prop where
  count : countE g t = (t.length : Int) * ((g : Int) - 1) + 1
  many : countE g t = ((gensW t (reps t) g).length : Int)
  trace : ∀ i, i < (gensW t (reps t) g).length → traceE g t 0 ((gensW t (reps t) g).getD i []) = (0, true)
  enum : enumE g [] (gensW t (reps t) g) 3000 = (U, (d, k), h)
  ul : U.length ≤ 3000
  fin : h = 12 ∨ h = 2 ∨ (h = 0 ∧ U = t)
theorem generates_law {g : Nat} {rels sub : List W} {t : Tb} (hg : 1 ≤ g ∧ g ≤ 16) (ht : Coset g rels sub t) : ∃ U d k h, GenL g t U d k h := by
  have hre := repsE_full ht.full ht.std
  have hmany := pairs_many ht.full ht.std
  have hR := reps_ok ht.full
  have hG := gensW_ok (t := t) (g := g) hR
  have hC : countE g t = ((gensW t (reps t) g).length : Int) := by
    unfold countE
    rw [hre, if_pos rfl, Int.toNat_natCast, length_gensW]
  have hM : countE g t = (t.length : Int) * ((g : Int) - 1) + 1 := by
    rw [hC, length_gensW, hmany]
    obtain ⟨k, rfl⟩ : ∃ k, g = k + 1 := ⟨g - 1, by omega⟩
    rw [show k + 1 - 1 = k from rfl, show ((k + 1 : Nat) : Int) - 1 = (k : Int) by omega]
    simp
  have hT : ∀ i, i < (gensW t (reps t) g).length → traceE g t 0 ((gensW t (reps t) g).getD i []) = (0, true) := fun i _ => by
    have h1 := traceE_good ht.full (r := 0) ht.full.good.n1 (hG i)
    rw [gens_fix ht.full ht.std i] at h1
    exact h1
  have hp : presE (g : Int) [] = 0 := by
    refine presE_none hg (Nat.zero_le _) fun j hj => absurd hj (Nat.not_lt_zero _)
  cases hb : badArgs g (gensW t (reps t) g) (3000 : Int) with
  | true => exact ⟨[], 0, 0, 2, ⟨hM, hC, hT, enumE_bad hp hb, Nat.zero_le _, .inr (.inl rfl)⟩⟩
  | false =>
    have hb2 : ∀ lim' : Nat, 1 ≤ lim' → lim' ≤ 20000 → badArgs g (gensW t (reps t) g) (lim' : Int) = false := fun lim' a b => by
      unfold badArgs at hb ⊢
      simp only [Bool.or_eq_false_iff, decide_eq_false_iff_not] at hb ⊢
      exact ⟨⟨hb.1.1, by omega⟩, by omega⟩
    rcases enum_cases (lim := 3000) (rels := []) hg hp (fun j hj => absurd hj (Nat.not_lt_zero _)) (fun j _ => hG j) hb2 (by omega) with c1 | ⟨u, d, k, c1⟩
    · exact ⟨[], 0, 0, 12, ⟨hM, hC, hT, c1, Nat.zero_le _, .inl rfl⟩⟩
    · exact ⟨u, d, k, 0, ⟨hM, hC, hT, c1.is 3000 c1.room (by omega), by have := c1.live; have := c1.most; have := c1.room; omega, .inr (.inr ⟨rfl, gens_table ht.full ht.std c1.coset⟩)⟩⟩
end Go.Proofs
namespace Go.Proofs
open Go.RowKit Go.Shelf Go.Proofs.Ct Go.Maps
set_option maxRecDepth 100000 in
set_option maxHeartbeats 8000000 in
theorem generates3_any (w : World) (which : Int) (vl vk : Value) (l k : List Int) (hl : IntsAt w vl l) (hk : IntsAt w vk k) (hw : -9223372036854775808 ≤ which ∧ which ≤ 9223372036854775807) :
    Calls Tryz.prog 3 #[.int .i64 which, vl, vk] w fun e w' => e = .returned (.bool true) ∧ Below w.heap.size w w' := by
  have HL := Lib.hid hl
  have HK := Lib.hid hk
  have HW := Lib.hid hw
  obtain ⟨Al, cl, rfl, q1, q2, -⟩ := hl.open_
  have hl3 : (l.length : Int) ≤ 9223372036854775807 := by omega
  have hl4 : (0 : Int) ≤ (l.length : Int) := Int.natCast_nonneg _
  clear q1 q2
  obtain ⟨Ak, ck, rfl, q1, q2, -⟩ := hk.open_
  have hk3 : (k.length : Int) ≤ 9223372036854775807 := by omega
  have hk4 : (0 : Int) ≤ (k.length : Int) := Int.natCast_nonneg _
  clear q1 q2
  clear hl hk hw
  by_cases a0 : 50 < (l.length : Int)
  · go_enter Tryz.func3, Tryz.ntmps3
    go_wp2_with fail
    refine (known_walk _).mono ?_
    rintro e v1 ⟨rfl, hb⟩
    have HB1 := Lib.hid hb
    clear hb
    go_wp2_with fail
    go_ret
    exact ⟨rfl, HB1.out⟩
  have a0' : (l.length : Int) ≤ 50 := by omega
  clear a0
  by_cases a1 : 30 < (k.length : Int)
  · go_enter Tryz.func3, Tryz.ntmps3
    go_wp2_with fail
    refine (known_walk _).mono ?_
    rintro e v1 ⟨rfl, hb⟩
    have HB1 := Lib.hid hb
    clear hb
    go_wp2_with fail
    go_ret
    exact ⟨rfl, HB1.out⟩
  have a1' : (k.length : Int) ≤ 30 := by omega
  clear a1
  obtain ⟨g, hg0, hg1, hg2, hg3, hg4, T, d1, k1, e1, hE1, he1, hTl, hC⟩ := back_all which l k
  have HC := Lib.hid hC
  have HG : Hid (∀ W, Below w.heap.size w W → Calls Tryz.prog 6 #[.int .i64 which, .slice Al l.length cl] W fun e w' => (∃ A c, e = .returned (.agg #[.int .i64 (g : Int), .slice A (givenP 4 which l).2.length c]) ∧ Tab w' (.slice A (givenP 4 which l).2.length c) (givenP 4 which l).2) ∧ Below W.heap.size W w') := Lib.hid fun W h => by
    rw [← hg0]
    exact given37_any W which _ l (HL.out.below h) (by omega) HW.out
  have H38 : Hid (∀ W Ar cr, Below w.heap.size w W → Tab W (.slice Ar (givenP 4 which l).2.length cr) (givenP 4 which l).2 → Calls Tryz.prog 7 #[.agg #[.int .i64 (g : Int), .slice Ar (givenP 4 which l).2.length cr], .slice Ak k.length ck] W fun e w' => (∃ A c, e = .returned (.tuple #[.slice A T.length c, .bool (decide (e1 = 0) && decide (T.length ≤ 40))]) ∧ Tab w' (.slice A T.length c) T) ∧ Below W.heap.size W w') := Lib.hid fun W Ar cr h hR =>
    tabled38_any W _ Ar cr g _ k T d1 k1 e1 ⟨hg1, by omega⟩ hR (HK.out.below h) (by omega) (fun j => by have := hg4.short j; omega) (fun j => by have := hg3.short j; omega) (by have := hg4.len; omega) hE1 he1 (by omega)
  generalize hbb : (decide (e1 = 0) && decide (T.length ≤ 40)) = bb at *
  have HBB := Lib.hid hbb
  clear hC hg3 hg4 hg0 hE1 he1 hbb HL HK HW
  generalize (givenP 4 which l).2 = rels at *
  generalize lawWords g 4 k = sub at *
  have hg1' : 1 ≤ (g : Int) := by omega
  have hg2' : (g : Int) ≤ 3 := by omega
  go_enter Tryz.func3, Tryz.ntmps3
  go_wp2_with fail
  refine (known_walk _).mono ?_
  rintro e v1 ⟨rfl, hb⟩
  have HB1 := Lib.hid hb
  clear hb
  go_wp2_with fail
  refine (HG.out _ HB1.out).mono ?_
  rintro e v2 ⟨⟨A2, c2, rfl, ht⟩, hb⟩
  have HB2 := Lib.hid (bl3 HB1.out hb)
  have HT2 := Lib.hid ht
  clear ht hb
  have HLD := Lib.hid (box40 v2 (.int .i64 (g : Int)) (.slice A2 rels.length c2))
  have hal := (Below.refl v2.heap.size v2).alloc (Nat.le_refl _) (.cells #[.int .i64 (g : Int), .slice A2 rels.length c2] 26)
  have HT3 := Lib.hid (kept_tab.below HT2.out hal)
  have HB3 := Lib.hid (bl3 HB2.out hal)
  have HR3 := Lib.hid (Below.refl (v2.alloc (.cells #[.int .i64 (g : Int), .slice A2 rels.length c2] 26)).heap.size (v2.alloc (.cells #[.int .i64 (g : Int), .slice A2 rels.length c2] 26)))
  clear hal
  go_wp2_with ((with_reducible refine wpList_sel 35 ?_); refine wpList_val rfl (r_loadAt 26 (.tmp 8) _ _ rfl rfl (HLD.out _ HR3.out).1) ?_)
  generalize hw3 : v2.alloc (.cells #[.int .i64 (g : Int), .slice A2 rels.length c2] 26) = v3 at *
  generalize v2.heap.size = B at *
  clear hw3
  refine (H38.out _ _ _ HB3.out HT3.out).mono ?_
  rintro e v4 ⟨⟨A4, c4, rfl, ht⟩, hb⟩
  have HR4 := Lib.hid (bl3 HR3.out hb)
  have HT4 := Lib.hid ht
  have HWM : Hid (∀ W, Below v4.heap.size v4 W → Below w.heap.size w W) := Lib.hid fun W h => bl3 HB3.out (bl3 HR4.out h)
  have HBC : Hid (∀ W, Below v4.heap.size v4 W → W.cell? ⟨B, 0, none⟩ = some (.int .i64 (g : Int))) := Lib.hid fun W h => (HLD.out _ (bl3 HR4.out h)).2
  clear ht hb H38 HG HR3 HT3 HT2 HB2 HB1 HLD
  have hT0 : (0 : Int) ≤ (T.length : Int) := Int.natCast_nonneg _
  cases bb with
  | false =>
    go_wp2_with fail
    go_ret
    exact ⟨rfl, HWM.out _ (Below.refl _ _)⟩
  | true =>
    obtain ⟨rfl, h40⟩ : e1 = 0 ∧ T.length ≤ 40 := by
      have := HBB.out
      simp only [Bool.and_eq_true, decide_eq_true_eq] at this
      exact this
    have hCT := HC.out rfl
    have hF := hCT.full
    have hS := hCT.std
    have hn1 := hF.good.n1
    obtain ⟨U, d, kk, h, hGL⟩ := generates_law ⟨hg1, by omega⟩ hCT
    have h40' : (T.length : Int) ≤ 40 := by omega
    have hn1' : 1 ≤ (T.length : Int) := by omega
    have hre := repsE_full hF hS
    have H16 : Hid (∀ W v, Tab W v T → Calls Tryz.prog 8 #[.int .i64 (g : Int), v] W fun e w' => e = .returned (.tuple #[.int .i64 ((gensW T (reps T) g).length : Int), .int .i64 0]) ∧ Below W.heap.size W w') := Lib.hid fun W v h => by
      have h5 := count16_any W v g T h
      rw [hGL.many, hre] at h5
      exact h5
    have H18 : Hid (∀ W v, Tab W v T → Calls Tryz.prog 9 #[.int .i64 (g : Int), v] W fun e w' => (∃ A c, e = .returned (.tuple #[.slice A (gensW T (reps T) g).length c, .int .i64 0]) ∧ Tab w' (.slice A (gensW T (reps T) g).length c) (gensW T (reps T) g)) ∧ Below W.heap.size W w') := Lib.hid fun W v h =>
      (gens18_good W v g T h hF.good hS).mono fun e w' (⟨⟨u, h5, h6⟩, h7⟩ : GensPost g T W e w') => by
        rw [gensE_good hF hS h40 (by omega)] at h5 h6
        obtain ⟨A', c', rfl⟩ := Tab.form h6.at_
        exact ⟨⟨A', c', h5, h6.at_⟩, h7⟩
    have HTR : Hid (∀ i, i < (gensW T (reps T) g).length → ∀ W v u, Tab W v T → IntsAt W u ((gensW T (reps T) g).getD i []) → Calls Tryz.prog 10 #[.int .i64 (g : Int), v, .int .i64 0, u] W fun e w' => e = .returned (.tuple #[.int .i64 0, .bool true]) ∧ Below W.heap.size W w') := Lib.hid fun i hi W v u h1 h2 =>
      traceK g T 0 _ _ _ (hGL.trace i hi) W v u h1 h2
    have hpg : T.length * g ≤ 40 * 3 := Nat.mul_le_mul h40 hg2
    have hps := pairs_length T (reps T) g
    have hGl : (gensW T (reps T) g).length ≤ 120 := by rw [length_gensW]; omega
    have H32 := Lib.hid (enumS g [] (gensW T (reps T) g) 3000 U d kk h hGL.enum (fun j => by have := schr_len hF hS j; omega) (by omega))
    have hml : (T.length : Int) * ((g : Int) - 1) + 1 = ((gensW T (reps T) g).length : Int) := by rw [← hGL.many]; exact hGL.count.symm
    have hGl' : ((gensW T (reps T) g).length : Int) ≤ 120 := by omega
    have hG0 : (0 : Int) ≤ ((gensW T (reps T) g).length : Int) := Int.natCast_nonneg _
    have HFIN := Lib.hid hGL.fin
    have hUl : (U.length : Int) ≤ 3000 := by have := hGL.ul; omega
    clear hCT hF hS hn1 hre hpg hps hGl hGL HC HBB
    generalize gensW T (reps T) g = G at *
    have hml1 : 0 ≤ (T.length : Int) * ((g : Int) - 1) := Int.mul_nonneg hT0 (by omega)
    have hml2 : (T.length : Int) * ((g : Int) - 1) ≤ 120 := by omega
    have hx1 := HBC.out _ (Below.refl _ _)
    go_wp2_with fail
    clear hx1
    refine (H16.out _ _ HT4.out).mono ?_
    rintro e v5 ⟨rfl, hb⟩
    have HR5 := Lib.hid hb
    have HT5 := Lib.hid (kept_tab.below HT4.out hb)
    have hx1 := HBC.out _ hb
    clear hb H16
    go_wp2_with fail
    clear hx1
    refine (H18.out _ _ HT5.out).mono ?_
    rintro e v6 ⟨⟨A6, c6, rfl, ht⟩, hb⟩
    have HR6 := Lib.hid (bl3 HR5.out hb)
    have HG6 := Lib.hid ht
    have HTW : Hid (∀ W, Below v6.heap.size v6 W → Tab W (.slice A4 T.length c4) T ∧ W.cell? ⟨B, 0, none⟩ = some (.int .i64 (g : Int)) ∧ Below w.heap.size w W ∧ Tab W (.slice A6 G.length c6) G) := Lib.hid fun W h => ⟨kept_tab.below HT4.out (bl3 HR6.out h), HBC.out _ (bl3 HR6.out h), HWM.out _ (bl3 HR6.out h), kept_tab.below HG6.out h⟩
    clear ht hb H18 HT4 HT5 HR5 HR6 HG6 HWM HBC HR4 HB3
    have hx1 := (HTW.out _ (Below.refl _ _)).2.1
    have hne1 : (((G.length : Nat) : Int) != (T.length : Int) * ((g : Int) - 1) + 1) = false := by rw [hml]; simp
    have hne2 : (((G.length : Nat) : Int) == (T.length : Int) * ((g : Int) - 1) + 1) = true := by rw [hml]; simp
    go_wp2_with fail
    clear hx1
    go_loopw [15] (fun i wr => ∃ k : Nat, i = .int .i64 (k : Int) ∧ k ≤ G.length ∧ Hid (Below v6.heap.size v6 wr)) (fun i _ => G.length - (intOf i).toNat)
    case atStart => exact ⟨0, rfl, Nat.zero_le _, Lib.hid (Below.refl _ _)⟩
    case round =>
      obtain ⟨k, rfl, hk, HBk⟩ := hrel
      have hk0 : (0 : Int) ≤ (k : Int) := Int.natCast_nonneg _
      by_cases hlt : k < G.length
      · have hlt' : (k : Int) < (G.length : Int) := by omega
        have HVK : Hid (∀ V, Below wr.heap.size wr V → Tab V (.slice A4 T.length c4) T ∧ V.cell? ⟨B, 0, none⟩ = some (.int .i64 (g : Int))) := Lib.hid fun V h => ⟨(HTW.out _ (bl3 HBk.out h)).1, (HTW.out _ (bl3 HBk.out h)).2.1⟩
        obtain ⟨Aq, cq, eq, -, -, hcc⟩ := LAt.open_ (HTW.out _ HBk.out).2.2.2
        obtain ⟨bg, og, rfl, hrow⟩ := (by obtain ⟨rfl, -, rfl⟩ := Value.slice.inj eq; exact hcc (by omega) : ∃ b off, A6 = some ⟨b, off, none⟩ ∧ ∀ k, k < G.length → ∃ u, wr.cell? ⟨b, off + k, none⟩ = some u ∧ IntsAt wr u (G.getD k []))
        obtain ⟨u, hu, hiu⟩ := hrow k hlt
        obtain ⟨Au, cu, rfl, -, -, -⟩ := hiu.open_
        have HCK : Hid (∀ V, Below wr.heap.size wr V → V.cell? ⟨bg, og + k, none⟩ = some (.slice Au (G.getD k []).length cu) ∧ IntsAt V (.slice Au (G.getD k []).length cu) (G.getD k [])) := Lib.hid fun V h => ⟨(h.cell (p := ⟨bg, og + k, none⟩) (World.block_lt_of_cell? wr _ hu)).trans hu, hiu.below h⟩
        have H10k := Lib.hid (HTR.out k hlt)
        have HLT := Lib.hid hlt
        clear hu hiu hrow hcc eq
        generalize G.getD k [] = row at *
        go_wp2_with fail
        refine (wpIn_wide (n := 3)).1 ?_
        refine wpIn_region_own (by kernel_rfl) 13 rfl (fun i => ([some 87, some 88, some 89, some 90, some 91, some 92, some 93, some 94, some 86, some 95, some 96, some 16, some 17] : List (Option Nat)).getD i none) (lex_of (by kernel_rfl)) wr.heap.size (fun i => ([] : List Nat).contains i) (fun i j => (([[], [0], [], [], [], [3, 4], [5], [1, 2, 6], [7], [8], [8], [9], [10]] : List (List Nat)).getD i []).contains j) (fun W => Below wr.heap.size wr W) (fun j v O W => (([.eq (.pointer (some ⟨B, 0, none⟩)), .eq (.int .i64 (g : Int)), .eq (.slice A4 T.length c4), .eq (.slice (some ⟨bg, og, none⟩) G.length c6), .eq (.int .i64 (k : Int)), .eq (.pointer (some ⟨bg, og + k, none⟩)), .eq (.slice Au row.length cu), .eq (.tuple #[.int .i64 0, .bool true]), .eq (.tuple #[.int .i64 0, .bool true]), .eq (.int .i64 0), .eq (.bool true), .eq (.int .i64 0), .eq (.bool true)] : List FP).getD j FP.any).holds wr.heap.size v O W) (by kernel_rfl) (by kernel_rfl) (dm_inj (by kernel_rfl)) (fun j v O W W' _ _ h hs h1 h2 => FP.keep rfl h1 h2 hs h) (dm_lt (n := 134) (by kernel_rfl)) (Nat.le_refl _) (Below.refl _ _).drew ?_ ?_
        · intro O ls q o a w2 hq ho hS hbw hls hP hpre hdj
          have hcases : q = 0 ∨ q = 1 ∨ q = 2 ∨ q = 3 ∨ q = 4 ∨ q = 5 ∨ q = 6 ∨ q = 7 ∨ q = 8 ∨ q = 9 ∨ q = 10 ∨ q = 11 ∨ q = 12 := by
            have : q < 13 := hq
            omega
          rcases hcases with rfl | rfl | rfl | rfl | rfl | rfl | rfl | rfl | rfl | rfl | rfl | rfl | rfl
          · obtain rfl := Option.some.inj ho
            exact wpOpIn_of rfl rfl (wpW_val (r_fld (.tmp 8) _ rfl (hP.out 8 (dm_out (by kernel_rfl))) (by kernel_rfl)) ⟨_, _, rfl, hS, (fun h => by simp at h), Step.same, rfl⟩)
          · obtain rfl := Option.some.inj ho
            exact wpOpIn_of rfl rfl (wpW_val (r_load1 3 agg3 (.tmp 87) ⟨B, 0, none⟩ rfl (hpre 0 (by decide) rfl).1 (HVK.out _ hS).2) ⟨_, _, rfl, hS, (fun h => by simp at h), Step.same, rfl⟩)
          · obtain rfl := Option.some.inj ho
            exact wpOpIn_of rfl rfl (wpW_val (r_move (.tmp 9) rfl (hP.out 9 (dm_out (by kernel_rfl)))) ⟨_, _, rfl, hS, (fun h => by simp at h), Step.same, rfl⟩)
          · obtain rfl := Option.some.inj ho
            exact wpOpIn_of rfl rfl (wpW_val (r_move (.tmp 13) rfl (hP.out 13 (dm_out (by kernel_rfl)))) ⟨_, _, rfl, hS, (fun h => by simp at h), Step.same, rfl⟩)
          · obtain rfl := Option.some.inj ho
            exact wpOpIn_of rfl rfl (wpW_val (r_move (.tmp 15) rfl (hP.out 15 (dm_out (by kernel_rfl)))) ⟨_, _, rfl, hS, (fun h => by simp at h), Step.same, rfl⟩)
          · obtain rfl := Option.some.inj ho
            exact wpOpIn_of rfl rfl (wpW_val (r_idx (.tmp 90) (.tmp 91) _ _ rfl (hpre 3 (by decide) rfl).1 (hpre 4 (by decide) rfl).1 (idx_offs Tryz.underlying24 size25 bg og G.length c6 k HLT.out _)) ⟨_, _, rfl, hS, (fun h => by simp at h), Step.same, rfl⟩)
          · obtain rfl := Option.some.inj ho
            exact wpOpIn_of rfl rfl (wpW_val (r_load1 39 agg25 (.tmp 92) ⟨bg, og + k, none⟩ rfl (hpre 5 (by decide) rfl).1 (HCK.out _ hS).1) ⟨_, _, rfl, hS, (fun h => by simp at h), Step.same, rfl⟩)
          · obtain rfl := Option.some.inj ho
            exact wpOpIn_of rfl rfl (wpW_call (R := fun v w' => v = .tuple #[.int .i64 0, .bool true] ∧ Below w2.heap.size w2 w') (r_call4 (.tmp 88) (.tmp 89) (.const (.int .i64 0)) (.tmp 93) _ _ _ _ _ rfl (hpre 1 (by decide) rfl).1 (hpre 2 (by decide) rfl).1 rfl (hpre 6 (by decide) rfl).1 call40) ((H10k.out w2 _ _ (HVK.out _ hS).1 (HCK.out _ hS).2).mono fun e w' ⟨he, hb⟩ => ⟨_, he, rfl, hb⟩)
              (fun v w'' ⟨hv, hb⟩ => ⟨v, _, rfl, hS.trans (hb.mono hS.size), (fun h => by simp at h), Step.below hb, hv⟩))
          · obtain rfl := Option.some.inj ho
            exact wpOpIn_of rfl rfl (wpW_val (r_move (.tmp 94) rfl (hpre 7 (by decide) rfl).1) ⟨_, _, rfl, hS, (fun h => by simp at h), Step.same, rfl⟩)
          · obtain rfl := Option.some.inj ho
            exact wpOpIn_of rfl rfl (wpW_val (r_extract 0 (.tmp 86) _ rfl (hpre 8 (by decide) rfl).1 rfl) ⟨_, _, rfl, hS, (fun h => by simp at h), Step.same, rfl⟩)
          · obtain rfl := Option.some.inj ho
            exact wpOpIn_of rfl rfl (wpW_val (r_extract 1 (.tmp 86) _ rfl (hpre 8 (by decide) rfl).1 rfl) ⟨_, _, rfl, hS, (fun h => by simp at h), Step.same, rfl⟩)
          · obtain rfl := Option.some.inj ho
            exact wpOpIn_of rfl rfl (wpW_val (r_assign (.tmp 95) rfl (hpre 9 (by decide) rfl).1) ⟨_, _, rfl, hS, (fun h => by simp at h), Step.same, rfl⟩)
          · obtain rfl := Option.some.inj ho
            exact wpOpIn_of rfl rfl (wpW_val (r_assign (.tmp 96) rfl (hpre 10 (by decide) rfl).1) ⟨_, _, rfl, hS, (fun h => by simp at h), Step.same, rfl⟩)
        · intro O ls a w2 hall hS hbw hP hsl
          obtain ⟨vs, hvs, hfr⟩ := hP.frame 134 rfl
          have e16 : a.tmps.getD 16 undef = .int .i64 0 := (hsl 11 (by decide) (.inl rfl)).1
          have e17 : a.tmps.getD 17 undef = .bool true := (hsl 12 (by decide) (.inl rfl)).1
          rw [← hvs] at e16 e17
          have HR15 := Lib.hid (bl3 HBk.out hS)
          clear hsl hP hall hS hvs hbw
          subst hfr
          dsimp only
          simp only [List.range, List.range.loop, List.map_cons, List.map_nil, List.any_cons, List.any_nil, Nat.reduceBEq, Option.some_beq_some, Bool.or_false, Bool.false_or, Bool.false_eq_true, if_true, if_false, List.getD_cons_zero, List.getD_cons_succ, e16, e17]
          go_wp2_with fail
          go_roundw
          case rel => exact ⟨k + 1, by go_num, by omega, HR15⟩
          case measure => simp [intOf]; omega
      · obtain rfl : k = G.length := by omega
        have HVZ : Hid (∀ V, Below wr.heap.size wr V → Tab V (.slice A4 T.length c4) T ∧ V.cell? ⟨B, 0, none⟩ = some (.int .i64 (g : Int)) ∧ Below w.heap.size w V ∧ Tab V (.slice A6 G.length c6) G) := Lib.hid fun V h => HTW.out _ (bl3 HBk.out h)
        have hx1 := (HVZ.out _ (Below.refl _ _)).2.1
        clear HBk HTW HTR
        by_cases h100 : (100 : Int) < (G.length : Int)
        · go_wp2_with fail
          go_ret
          exact ⟨rfl, (HVZ.out _ (Below.refl _ _)).2.2.1⟩
        · have h100' : (G.length : Int) ≤ 100 := by omega
          clear h100
          go_wp2_with fail
          refine (H32.out _ _ _ tab_nil (HVZ.out _ (Below.refl _ _)).2.2.2).mono ?_
          rintro e v10 ⟨⟨u10, rfl, ht⟩, hb⟩
          obtain ⟨A10, c10, rfl⟩ := Tab.form ht
          have hal := (Below.refl v10.heap.size v10).alloc (Nat.le_refl _) (.cells #[.int .i64 d, .int .i64 kk, .int .i64 0] 41)
          have HR11 := Lib.hid (bl3 hb hal)
          have HT11 := Lib.hid (kept_tab.below ht hal)
          clear hal hb ht H32 hx1
          rcases HFIN.out with rfl | rfl | ⟨rfl, rfl⟩
          · clear HFIN
            go_wp2_with fail
            go_ret
            exact ⟨rfl, (HVZ.out _ HR11.out).2.2.1⟩
          · clear HFIN
            go_wp2_with fail
            go_ret
            exact ⟨rfl, (HVZ.out _ HR11.out).2.2.1⟩
          · clear HFIN
            have HS12 := Lib.hid (sameS _ _ _ _ HT11.out (HVZ.out _ HR11.out).1)
            go_wp2_with fail
            refine HS12.out.mono ?_
            rintro e v12 ⟨rfl, hb⟩
            have HR12 := Lib.hid (bl3 HR11.out hb)
            clear hb
            go_wp2_with fail
            go_ret
            exact ⟨rfl, (HVZ.out _ HR12.out).2.2.1⟩
end Go.Proofs
namespace Go.Proofs
open Go.RowKit Go.ChangeShapes Go.WideShapes Go.ChangeAt Go.Deep
section
variable {H : Type} {enc : TypeId × Value → H} {W : World}
theorem spot_none {a : Addr} {v : Value} (h : W.cell? (a.add 0) = some v) : a = ⟨a.block, a.off, none⟩ := by
  obtain ⟨b, o, s⟩ := a
  cases s with
  | none => rfl
  | some q =>
    exfalso
    have e : ({ block := b, off := o, spot := some q } : Addr).add 0 = { block := b, off := o, spot := some q } := by unfold Addr.add; rw [if_pos rfl]
    rw [e] at h
    unfold World.cell? at h
    simp only [Option.isSome_some, if_true] at h
    split at h <;> cases h
theorem wf_fits {x : Int} (h : (Lit.int .i64 x).wf = true) : -9223372036854775808 ≤ x ∧ x ≤ 9223372036854775807 := by
  simpa [Lit.wf, IntKind.min, IntKind.max, IntKind.signed, IntKind.bits] using h
theorem lat_of_trod {α : Type} {R : World → Value → α → Prop} {d : α} {t e : TypeId} {base fuel : Nat} {spare : Nat → Bool} {held : Bool} {v : Value} {x : DataW H × List MemPlace} (ht : Tryz.prog.underlying t = some (.slice e)) (hc : Tryz.prog.cellsOf e = 1)
    (hR : ∀ n u y, DataW.trod enc Tryz.prog W base spare held n e [u] = some y → ∃ z, R W u z) (h : DataW.trod enc Tryz.prog W base spare held fuel t [v] = some x) : ∃ xs, LAt R d W v xs := by
  rcases open_slice1 ht hc h with ⟨hv, -⟩ | ⟨a, len, cap, m, n, V, D, Pl, hv, -, hl, hm, hmm, -, hx⟩
  · obtain rfl : v = .slice none 0 0 := by simpa using hv
    exact ⟨[], [], ⟨none, 0, 0, rfl, rfl, Nat.le_refl _, by simp [maxLen], fun h => absurd h (by simp)⟩, rfl, fun i hi => absurd hi (by simp)⟩
  · obtain rfl : v = .slice (some a) len cap := by simpa using hv
    have hlm : len ≤ m := by rw [hmm]; split <;> omega
    have hz : ∀ i, i < len → ∃ z, R W (V i) z := fun i hi => hR n (V i) _ (hx i (by omega)).2
    have hf : ∃ f : Nat → α, ∀ i, i < len → R W (V i) (f i) := by
      have hz' : ∀ i, ∃ z, i < len → R W (V i) z := fun i => by
        by_cases hi : i < len
        · obtain ⟨z, hz⟩ := hz i hi; exact ⟨z, fun _ => hz⟩
        · exact ⟨d, fun h => absurd h hi⟩
      exact ⟨fun i => Classical.choose (hz' i), fun i => Classical.choose_spec (hz' i)⟩
    obtain ⟨f, hf⟩ := hf
    refine ⟨(List.range len).map f, (List.range len).map V, ⟨_, len, cap, rfl, by simp, hl, hm, fun h0 => ?_⟩, by simp, fun i hi => ?_⟩
    · have hsp := spot_none (hx 0 (by omega)).1
      refine ⟨a.block, a.off, by rw [← hsp], fun j u hu => ?_⟩
      have hj : j < len := by have := (List.getElem?_eq_some_iff.1 hu).1; simpa using this
      have := (hx j (by omega)).1
      rw [hsp, Addr.add_lit] at this
      rw [this, ← hu]
      simp [List.getElem?_range hj]
    · have hi' : i < len := by simpa using hi
      refine ⟨V i, by simp [List.getElem?_range hi'], ?_⟩
      have : ((List.range len).map f).getD i d = f i := by simp [List.getD_eq_getElem?_getD, List.getElem?_range hi']
      rw [this]
      exact hf i hi'
theorem intsT_of_trod {t : TypeId} (ht : Tryz.prog.underlying t = some (.slice 3)) {base fuel : Nat} {spare : Nat → Bool} {held : Bool} {v : Value} {x : DataW H × List MemPlace} (h : DataW.trod enc Tryz.prog W base spare held fuel t [v] = some x) : ∃ xs, IntsAt W v xs := by
  obtain ⟨xs, vs, hS, hl, he⟩ := lat_of_trod (R := fun _ u z => u = .int .i64 z ∧ (Lit.int .i64 z).wf = true) (d := 0) ht (by kernel_rfl) (fun n u y hy => by
    obtain ⟨m, hu, -, hw⟩ := DataW.trod_int Tryz.underlying3 hy
    exact ⟨m, by simpa using hu, hw⟩) h
  have hvs : vs = ints xs := by
    apply List.ext_getElem (by simpa [ints] using hl)
    intro i h1 h2
    obtain ⟨u, hu, rfl, -⟩ := he i (by omega)
    have hi : i < xs.length := by omega
    rw [List.getElem?_eq_getElem h1] at hu
    rw [Option.some.inj hu]
    simp [ints, List.getD_eq_getElem?_getD, hi]
  refine ⟨xs, hvs ▸ hS, fun z hz => ?_⟩
  obtain ⟨i, hi, rfl⟩ := List.getElem_of_mem hz
  obtain ⟨u, -, -, hw⟩ := he i hi
  have e : xs.getD i 0 = xs[i] := by simp [List.getD_eq_getElem?_getD, hi]
  rw [e] at hw
  exact wf_fits hw
theorem ints_of_trod {base fuel : Nat} {spare : Nat → Bool} {held : Bool} {v : Value} {x : DataW H × List MemPlace} (h : DataW.trod enc Tryz.prog W base spare held fuel 22 [v] = some x) : ∃ xs, IntsAt W v xs := intsT_of_trod Tryz.underlying22 h
end
end Go.Proofs
namespace Go.Proofs.YtmpnengjboabcaaGreat
open Go.ChangeShapes Go.WideShapes Go.ChangeAt Go.RowKit
theorem fac_k25 : (Tryz.prog.mayEnter) = true := by kernel_rfl
end Go.Proofs.YtmpnengjboabcaaGreat
namespace Go.Proofs.YtmpnengjboabcaaGreat
open Go.ChangeShapes Go.WideShapes Go.ChangeAt Go.RowKit
theorem fac_k26 : ((Rows.rewriteOrdersRow.lifted == Tryz.prog.liftsFinal)) = true := by kernel_rfl
end Go.Proofs.YtmpnengjboabcaaGreat
namespace Go.Proofs.YtmpnengjboabcaaGreat
open Go.ChangeShapes Go.WideShapes Go.ChangeAt Go.RowKit
theorem fac_k27 : ((Tryz.prog.make == some Rows.rewriteOrdersRow.make)) = true := by kernel_rfl
end Go.Proofs.YtmpnengjboabcaaGreat
namespace Go.Proofs.YtmpnengjboabcaaGreat
open Go.ChangeShapes Go.WideShapes Go.ChangeAt Go.RowKit
theorem fac_k1 : (laidOutB Tryz.prog) = true := by kernel_rfl
theorem fac_k2 : (mapsRowed Tryz.prog) = true := by kernel_rfl
theorem fac_k24 : (Tryz.prog.stopsHeard) = true := by kernel_rfl
end Go.Proofs.YtmpnengjboabcaaGreat
namespace Go.Proofs.YtmpnengjboabcaaGreat
theorem and_mk {a b : Bool} (h : a = true) (k : b = true) : (a && b) = true := by rw [h, k]; rfl
theorem joined_mk {P : Program} {f : FuncId} {fn : Func} {s : ChangeSpec} {c : OpenClaim} (k0 : (c.wf (OpenSpec.ofChange s)) = true) (k1 : (laidOutB P) = true) (k2 : (mapsRowed P) = true) (k3 : (fn.params.all (P.readableRec ·)) = true) (k4 : (namedTie P c.named s.vars) = true) (k5 : ((c.stops == [])) = true) (k6 : ((P.stops == [])) = true) (k7 : ((c.knobs == [])) = true) (k8 : ((P.stopKnobs == [])) = true) (k9 : ((c.inPlace == P.inPlace f)) = true) (k10 : ((c.unfollowed == P.unfollowed f)) = true) (k11 : ((c.recurses == P.recurses f)) = true) (k12 : ((c.named == P.varsNamed f)) = true) (k13 : ((c.maps == (fn.params.toList ++ s.plain.varTypes P).any (P.mapsRec ·))) = true) (k14 : ((c.ifaces == (fn.params.toList ++ s.plain.varTypes P).any (P.ifacesRec ·))) = true) (k15 : ((c.mapsOut == P.mapsAmong fn.resultTypes.toList)) = true) (k16 : ((c.loops == (fn.params.toList ++ s.plain.varTypes P).any (P.loopsFrom ·))) = true) (k17 : ((c.wideKeys == (fn.params.toList ++ s.plain.varTypes P ++ fn.resultTypes.toList).any (P.wideKeysFrom ·))) = true) (k18 : (s.vars.all (P.varReadable ·)) = true) (k19 : (fn.resultTypes.all (fun t => P.readableRec t && decide (t < P.types.size))) = true) (k20 : ((c.ifacesOut == fn.resultTypes.toList.any (P.ifacesRec ·))) = true) (k21 : ((c.loopsOut == fn.resultTypes.toList.any (P.loopsFrom ·))) = true) (k22 : ((c.plainKeys == P.plainKeys)) = true) (k23 : (c.shortTexts.isNone) = true) (k24 : (P.stopsHeard) = true) (k25 : (P.mayEnter) = true) (k26 : ((c.lifted == P.liftsFinal)) = true) (k27 : ((P.make == some c.make)) = true) (k28 : ((c.domain.isEmpty && c.kinds == [])) = true) (k29 : ((c.pinned == c.pinnedBy)) = true) (k30 : ((c.veiled == (fn.params.toList ++ s.plain.varTypes P ++ fn.resultTypes.toList).any (P.veiledRec ·))) = true) (k31 : (c.veiledFits P fn.params.toList (fn.params.toList ++ s.plain.varTypes P ++ fn.resultTypes.toList)) = true) : joinedFacts P f fn s c = true := by
  have q28 := k28
  rw [Bool.and_eq_true, beq_iff_eq] at q28
  unfold joinedFacts
  refine (and_mk (and_mk (and_mk (and_mk (and_mk (and_mk (and_mk (and_mk (and_mk (and_mk (and_mk (and_mk (and_mk (and_mk (and_mk (and_mk (and_mk (and_mk (and_mk (and_mk (and_mk (and_mk (and_mk (and_mk (and_mk (and_mk (and_mk (and_mk (and_mk (and_mk (and_mk k0 k1) k2) k3) k4) k5) k6) k7) k8) k9) k10) k11) k12) k13) k14) k15) k16) k17) k18) k19) k20) k21) k22) k23) k24) k25) k26) k27) ?_) k29) k30) k31)
  rw [if_pos q28.1, q28.2]
  rfl
end Go.Proofs.YtmpnengjboabcaaGreat
