/- Plain: what words that act trivially become by the steps of a simplification; Plain: an elimination keeps what acts: from the old generators to those that are left, and back; Any number of permutations: how letters act on them; the map of the letters' lists in pres.Satisfied; pres.Satisfied at any number of permutations. -/
import Derived.Test.YtmmbmhjdnlmedaaTsCS8
import Derived.Test.YtmmbmhjdnlmedaaTsCS7
namespace Go.Proofs.Tz
open Go.Proofs.Ct (W red inv mulW invW opp foldTo push redTo LOk Mdl actW actW_app col flp)
section
variable {α : Type} {n : Nat} {D : α → Prop} {act : α → Nat → α}
/-- a word moves nothing -/
def Fix (D : α → Prop) (act : α → Nat → α) (w : W) : Prop := ∀ p, D p → actW act p w = p
variable (h : Mdl n [] D act)
include h
theorem red_act {w : W} (hw : LOk n w) {p : α} (hp : D p) : actW act p (red w) = actW act p w := h.redW hp _ w rfl hw
theorem inv_act' {w : W} (hw : LOk n w) {p : α} (hp : D p) : actW act (actW act p (inv w)) w = p := by
  have := h.invW hw.inv hp
  rwa [Ct.inv_inv] at this
theorem fix_red {w : W} (hw : LOk n w) : Fix D act (red w) ↔ Fix D act w :=
  ⟨fun k p hp => by rw [← red_act h hw hp]; exact k p hp, fun k p hp => by rw [red_act h hw hp]; exact k p hp⟩
theorem fix_inv {w : W} (hw : LOk n w) (k : Fix D act w) : Fix D act (inv w) := fun p hp => by
  have h1 := h.clW hw.inv hp
  have h2 := k _ h1
  rw [inv_act' h hw hp] at h2
  exact h2.symm
theorem fix_rot {a b : W} (ha : LOk n a) (k : Fix D act (a ++ b)) : Fix D act (b ++ a) := fun p hp => by
  have h1 := h.clW ha.inv hp
  have h2 := k _ h1
  rw [actW_app, inv_act' h ha hp] at h2
  rw [actW_app, h2]
  exact inv_act' h ha hp
theorem act_pair {x : Int} (hx : -(n : Int) ≤ x ∧ x ≤ n ∧ x ≠ 0) {p : α} (hp : D p) : actW act p [x, -x] = p := h.back hp hx
theorem fix_rotW {w : W} (hw : LOk n w) (k : Nat) : Fix D act (rot w k) ↔ Fix D act w := by
  have e : w = w.take k ++ w.drop k := (List.take_append_drop k w).symm
  constructor
  · intro hf
    have := fix_rot h (a := w.drop k) (b := w.take k) (fun x hx => hw x (List.mem_of_mem_drop hx)) hf
    rwa [List.take_append_drop] at this
  · intro hf
    rw [e] at hf
    exact fix_rot h (fun x hx => hw x (List.mem_of_mem_take hx)) hf
theorem fix_mid {m : W} {x : Int} (hx : -(n : Int) ≤ x ∧ x ≤ n ∧ x ≠ 0) (hm : LOk n m) : Fix D act (x :: (m ++ [-x])) ↔ Fix D act m := by
  have hx1 : LOk n [x] := fun y hy => by rw [List.mem_singleton.1 hy]; exact hx
  have hm1 : LOk n (m ++ [-x]) := hm.app fun y hy => by rw [List.mem_singleton.1 hy]; omega
  have key : Fix D act ((m ++ [-x]) ++ [x]) ↔ Fix D act m := by
    have e : ∀ p, D p → actW act p ((m ++ [-x]) ++ [x]) = actW act p m := fun p hp => by
      rw [List.append_assoc, actW_app]
      have := act_pair h (x := -x) (by omega) (h.clW hm hp)
      rw [Int.neg_neg] at this
      exact this
    exact ⟨fun k p hp => by rw [← e p hp]; exact k p hp, fun k p hp => by rw [e p hp]; exact k p hp⟩
  rw [← key]
  exact ⟨fun k => fix_rot h (a := [x]) (b := m ++ [-x]) hx1 k, fun k => fix_rot h (a := m ++ [-x]) (b := [x]) hm1 k⟩
theorem fix_cycTo : ∀ (k : Nat) {w : W}, LOk n w → (Fix D act (cycTo k w) ↔ Fix D act w)
  | 0, _, _ => Iff.rfl
  | k + 1, w, hw => by
    unfold cycTo
    split
    · rename_i hc
      have hml : LOk n ((w.drop 1).take (w.length - 2)) := fun x hx => hw x (List.mem_of_mem_drop (List.mem_of_mem_take hx))
      rw [fix_cycTo k hml]
      obtain ⟨x, m, y, e⟩ : ∃ x m y, w = x :: (m ++ [y]) := by
        match w, hc.1 with
        | x :: v, hl =>
          rcases List.eq_nil_or_concat v with rfl | ⟨m, y, rfl⟩
          · simp at hl
          · exact ⟨x, m, y, by rw [List.concat_eq_append]⟩
      subst e
      have e2 : ((x :: (m ++ [y])).drop 1).take ((x :: (m ++ [y])).length - 2) = m := by simp
      rw [e2] at hml ⊢
      have e3 : (x :: (m ++ [y])).getD ((x :: (m ++ [y])).length - 1) 0 = y := by simp [List.getD_eq_getElem?_getD]
      have e4 : (x :: (m ++ [y])).getD 0 0 = x := rfl
      have e5 := (opp_iff'.1 (e3 ▸ e4 ▸ hc.2)).2
      rw [e5]
      exact (fix_mid h (hw x (List.mem_cons_self ..)) hml).symm
    · exact Iff.rfl
theorem fix_cyc {w : W} (hw : LOk n w) : Fix D act (cyc w) ↔ Fix D act w := by
  unfold cyc
  rw [fix_cycTo h _ (Ct.lok_redP hw)]
  exact fix_red h hw
theorem fix_least {w : W} (hw : LOk n w) : Fix D act (leastW w) ↔ Fix D act w := by
  have hc : LOk n (cyc w) := fun x hx => hw x ((cyc_sub w).1 x hx)
  rw [← fix_cyc h hw]
  unfold leastW
  rcases leastOf_is (cyc w) with e | ⟨j, h1, e⟩ | ⟨j, h1, e⟩ <;> rw [e]
  · exact fix_rotW h hc j
  · rw [(cyc_cy w).invW, fix_rotW h hc.inv j]
    refine ⟨fun k => ?_, fix_inv h hc⟩
    have := fix_inv h hc.inv k
    rwa [Ct.inv_inv] at this
/-- the clean relators hold just where the relators do -/
theorem fix_clean {rels : List W} (hr : ∀ w ∈ rels, LOk n w) : (∀ w ∈ cleanL rels, Fix D act w) ↔ ∀ w ∈ rels, Fix D act w := by
  have key : ∀ k, k ≤ rels.length → ((∀ w ∈ cleanTo rels k, Fix D act w) ↔ ∀ w ∈ rels.take k, Fix D act w) := by
    intro k
    induction k with
    | zero => intro _; simp [cleanTo, foldTo]
    | succ k ih =>
      intro hk
      have hm : rels.getD k [] ∈ rels := getD_mem' (by omega)
      have e : rels.take (k + 1) = rels.take k ++ [rels.getD k []] := by
        rw [List.take_add_one, List.getD_eq_getElem?_getD, List.getElem?_eq_getElem (show k < rels.length by omega)]; rfl
      have h1 : (∀ w ∈ rels.take (k + 1), Fix D act w) ↔ (∀ w ∈ rels.take k, Fix D act w) ∧ Fix D act (rels.getD k []) := by
        rw [e]
        exact ⟨fun q => ⟨fun w hw => q w (List.mem_append_left _ hw), q _ (List.mem_append_right _ (List.mem_singleton_self _))⟩, fun q w hw => (List.mem_append.1 hw).elim (q.1 w) fun hw => by rw [List.mem_singleton.1 hw]; exact q.2⟩
      have h2 := fix_least h (hr _ hm)
      rw [h1, ← ih (by omega), ← h2]
      show (∀ w ∈ (if leastW (rels.getD k []) = [] then cleanTo rels k else ins (leastW (rels.getD k [])) (cleanTo rels k)), Fix D act w) ↔ _
      split
      · rename_i e0
        rw [e0]
        exact ⟨fun q => ⟨q, fun _ _ => rfl⟩, fun q => q.1⟩
      · exact ⟨fun q => ⟨fun w hw => q w (mem_ins.2 (.inr hw)), q _ (mem_ins.2 (.inl rfl))⟩, fun q w hw => (mem_ins.1 hw).elim (fun e => by rw [e]; exact q.2) (q.1 w)⟩
  have := key rels.length (Nat.le_refl _)
  rwa [List.take_length] at this
/-- a relator is replaced by what it becomes -/
theorem fix_short {s w v : W} (hs : LOk n s) (hw : LOk n w) (hwn : w ≠ []) (hf : Fix D act w) (e : shortW s w = some v) : Fix D act v ↔ Fix D act s := by
  unfold shortW at e
  simp only at e
  split at e
  · rename_i hl
    split at e
    · rename_i k hk
      have hks : k < s.length := List.mem_range.1 (List.mem_of_find?_eq_some hk)
      have hhd := List.find?_some hk
      injection e with e
      subst e
      have hH : w.length / 2 + 1 ≤ w.length := by have := List.length_pos_iff.2 hwn; omega
      generalize w.length / 2 + 1 = H at *
      have hrl : LOk n (rot s k) := fun x hx => hs x (mem_rot hx)
      rw [← fix_rotW h hs k]
      -- the head
      have hh : (rot s k).take H = w.take H := by
        unfold headsB at hhd
        rw [List.all_eq_true] at hhd
        refine List.ext_getElem (by
          rw [List.length_take, List.length_take, length_rot s (by omega)]
          omega) ?_
        intro i h1 h2
        rw [List.length_take] at h2
        rw [List.length_take, length_rot s (by omega)] at h1
        have := hhd i (List.mem_range.2 (by rw [List.length_take]; omega))
        simp only [decide_eq_true_eq] at this
        rw [getD_take0 (by omega)] at this
        have e1 := getD_rot (w := s) (k := k) (i := i) (by omega) (by omega)
        rw [show i + k = k + i by omega, this] at e1
        rw [List.getElem_take, List.getElem_take]
        rw [List.getD_eq_getElem?_getD, List.getD_eq_getElem?_getD, List.getElem?_eq_getElem (by rw [length_rot s (by omega)]; omega), List.getElem?_eq_getElem (by omega)] at e1
        exact e1
      have hwd : LOk n (w.drop H) := fun y hy => hw y (List.mem_of_mem_drop hy)
      have hwt : LOk n (w.take H) := fun y hy => hw y (List.mem_of_mem_take hy)
      have hxd : LOk n ((rot s k).drop H) := fun y hy => hrl y (List.mem_of_mem_drop hy)
      have e2 : ∀ p, D p → actW act p (mulW (invW (w.drop H)) ((rot s k).drop H)) = actW act p (rot s k) := fun p hp => by
        have h1 : actW act p (inv (w.drop H)) = actW act p (w.take H) := by
          have h3 := hf p hp
          rw [← List.take_append_drop H w, actW_app] at h3
          have h4 := h.invW hwd (h.clW hwt hp)
          rw [h3] at h4
          exact h4
        unfold Ct.mulW Ct.invW
        rw [red_act h ((Ct.lok_redP hwd.inv).app hxd) hp, actW_app, red_act h hwd.inv hp, h1, ← hh, ← actW_app, List.take_append_drop]
      exact ⟨fun k p hp => by rw [← e2 p hp]; exact k p hp, fun k p hp => by rw [e2 p hp]; exact k p hp⟩
    · cases e
  · cases e
theorem fix_turn {r t : W} (hr : LOk n r) (hf : Fix D act r) (ht : t ∈ turnsW r) : LOk n t ∧ Fix D act t := by
  rcases List.mem_append.1 ht with q | q
  · obtain ⟨k, -, rfl⟩ := List.mem_map.1 q
    exact ⟨fun x hx => hr x (mem_rot hx), (fix_rotW h hr k).2 hf⟩
  · obtain ⟨k, -, rfl⟩ := List.mem_map.1 q
    have h1 : LOk n (invW r) := Ct.lok_redP hr.inv
    refine ⟨fun x hx => h1 x (mem_rot hx), (fix_rotW h h1 k).2 ?_⟩
    exact (fix_red h hr.inv).2 (fix_inv h hr hf)
/-- a shortening step: the relators hold just where they held -/
theorem fix_shortF {rels l : List W} (hC : Cln n rels) (e : shortF rels = some l) : (∀ w ∈ l, Fix D act w) ↔ ∀ w ∈ rels, Fix D act w := by
  have hr := hC.ok
  unfold shortF at e
  obtain ⟨⟨i, k⟩, h1, h2⟩ := List.exists_of_findSome?_eq_some e
  obtain ⟨hi, hk, hik⟩ := pairs_mem h1
  obtain ⟨t, h3, h4⟩ := List.exists_of_findSome?_eq_some h2
  simp only [Option.map_eq_some_iff] at h4
  obtain ⟨v, h5, rfl⟩ := h4
  have hi' := hr _ (getD_mem' hi)
  have hk' := hr _ (getD_mem' hk)
  obtain ⟨t1, -, t3⟩ := turns_mem (hC.cy _ (getD_mem' hi)) h3
  have htl : LOk n t := t3 n hi'
  have tne : t ≠ [] := fun e => hC.ne _ (getD_mem' hi) (List.eq_nil_of_length_eq_zero (by rw [← t1, e]; rfl))
  have hvl : LOk n v := (shortW_some tne h5).2 n hk' htl
  have hset : ∀ w ∈ rels.set k v, LOk n w := fun w hw => (List.mem_or_eq_of_mem_set hw).elim (hr w) fun e => by rw [e]; exact hvl
  rw [fix_clean h hset]
  have hki : (rels.set k v).getD i [] = rels.getD i [] := by
    simp [List.getD_eq_getElem?_getD, List.getElem?_set_ne (Ne.symm hik)]
  have him : rels.getD i [] ∈ rels.set k v := by rw [← hki]; exact getD_mem' (by rw [List.length_set]; exact hi)
  have hvm : v ∈ rels.set k v := by
    have e1 : (rels.set k v).getD k [] = v := by simp [List.getD_eq_getElem?_getD, hk]
    have e2 := getD_mem' (l := rels.set k v) (j := k) (by rw [List.length_set]; exact hk)
    rwa [e1] at e2
  constructor
  · intro q w hw
    have hf := fix_turn h hi' (q _ him) h3
    obtain ⟨j, hj, ew⟩ := List.mem_iff_getElem.1 hw
    by_cases hjk : j = k
    · subst hjk
      have : rels.getD j [] = w := by rw [List.getD_eq_getElem?_getD, List.getElem?_eq_getElem hj]; exact ew
      rw [← this]
      exact (fix_short h hk' hf.1 tne hf.2 h5).1 (q v hvm)
    · refine q w ?_
      have : (rels.set k v).getD j [] = w := by rw [List.getD_eq_getElem?_getD, List.getElem?_set_ne (Ne.symm hjk), List.getElem?_eq_getElem hj]; exact ew
      rw [← this]; exact getD_mem' (by rw [List.length_set]; exact hj)
  · intro q w hw
    rcases List.mem_or_eq_of_mem_set hw with e | e
    · exact q w e
    · rw [e]
      have hf := fix_turn h hi' (q _ (getD_mem' hi)) h3
      exact (fix_short h hk' hf.1 tne hf.2 h5).2 (q _ (getD_mem' hk))
end
end Go.Proofs.Tz
namespace Go.Proofs.Tz
open Go.Proofs.Ct (W red inv mulW invW opp foldTo push redTo LOk Mdl actW actW_app col flp)
section
variable {α : Type} {n : Nat} {D : α → Prop} {act : α → Nat → α}
theorem col_pos {x : Int} (hx : 0 < x) : col x = 2 * (x - 1).toNat := by unfold Ct.col; rw [if_pos hx]; omega
theorem col_neg {x : Int} (hx : x < 0) : col x = 2 * (-x - 1).toNat + 1 := by unfold Ct.col; rw [if_neg (by omega)]; omega
theorem flp_even (k : Nat) : flp (2 * k) = 2 * k + 1 := by unfold Ct.flp; rw [if_pos (by omega)]
theorem flp_odd (k : Nat) : flp (2 * k + 1) = 2 * k := by unfold Ct.flp; rw [if_neg (by omega)]; omega
theorem cut_at {r : W} {a : Nat} (h : a < r.length) : r = r.take a ++ ([r.getD a 0] ++ r.drop (a + 1)) := by
  have e : r.getD a 0 = r[a] := by rw [List.getD_eq_getElem?_getD, List.getElem?_eq_getElem h]; rfl
  rw [e]
  show r = r.take a ++ r[a] :: r.drop (a + 1)
  rw [List.getElem_cons_drop, List.take_append_drop]
/-- a relator in which a generator stands once says what the generator is -/
theorem img_rel (h : Mdl n [] D act) {r : W} {gen a : Nat} (hg : 1 ≤ gen ∧ gen ≤ n) (hr : LOk n r) (ho : onceW r gen = some a) : Fix D act r ↔ ∀ p, D p → act p (2 * (gen - 1)) = actW act p (imgW r a) := by
  obtain ⟨ha, hx, -, -⟩ := onceW_spec ho
  have hx' := isG_iff.1 hx
  have e := cut_at ha
  have hu : LOk n (r.take a) := fun y hy => hr y (List.mem_of_mem_take hy)
  have hv : LOk n (r.drop (a + 1)) := fun y hy => hr y (List.mem_of_mem_drop hy)
  have hi : imgW r a = if r.getD a 0 < 0 then invW (mulW (invW (r.take a)) (invW (r.drop (a + 1)))) else mulW (invW (r.take a)) (invW (r.drop (a + 1))) := rfl
  rw [hi]
  generalize r.getD a 0 = x at *
  generalize r.take a = u at *
  generalize r.drop (a + 1) = v at *
  subst e
  have hxo : -(n : Int) ≤ x ∧ x ≤ n ∧ x ≠ 0 := by omega
  have hc := Ct.col_ltL hxo
  have hJ : LOk n (mulW (invW u) (invW v)) := Ct.lok_redP ((Ct.lok_redP hu.inv).app (Ct.lok_redP hv.inv))
  have hJa : ∀ p, D p → actW act p (mulW (invW u) (invW v)) = actW act (actW act p (inv u)) (inv v) := fun p hp => by
    unfold Ct.mulW Ct.invW
    rw [red_act h ((Ct.lok_redP hu.inv).app (Ct.lok_redP hv.inv)) hp, actW_app, red_act h hu.inv hp, red_act h hv.inv (h.clW hu.inv hp)]
  have key : Fix D act (u ++ ([x] ++ v)) ↔ ∀ q, D q → act q (col x) = actW act q (mulW (invW u) (invW v)) := by
    constructor
    · intro k q hq
      have h1 := h.clW hu.inv hq
      have h2 := k _ h1
      rw [actW_app, inv_act' h hu hq, actW_app] at h2
      have h3 : actW act (act q (col x)) v = actW act q (inv u) := h2
      rw [hJa q hq, ← h3]
      exact (h.invW hv (h.cl _ _ hq hc)).symm
    · intro k p hp
      have h1 := h.clW hu hp
      have h2 := k _ h1
      rw [hJa _ h1, h.invW hu hp] at h2
      rw [actW_app, actW_app]
      show actW act (act (actW act p u) (col x)) v = p
      rw [h2]
      exact inv_act' h hv hp
  rw [key]
  generalize mulW (invW u) (invW v) = J at *
  rcases hx' with rfl | rfl
  · rw [if_neg (by omega)]
    have : col (gen : Int) = 2 * (gen - 1) := by rw [col_pos (by omega)]; omega
    rw [this]
  · rw [if_pos (by omega)]
    have e1 : col (-(gen : Int)) = 2 * (gen - 1) + 1 := by rw [col_neg (by omega)]; omega
    have hI : ∀ p, D p → actW act p (invW J) = actW act p (inv J) := fun p hp => red_act h hJ.inv hp
    rw [e1]
    constructor
    · intro k p hp
      have h1 := h.cl p (2 * (gen - 1)) hp (by omega)
      have h2 := k _ h1
      have h3 := h.inv p (2 * (gen - 1)) hp (by omega)
      rw [flp_even] at h3
      rw [h3] at h2
      rw [hI p hp]
      have h4 := h.invW hJ h1
      rw [← h2] at h4
      exact h4.symm
    · intro k q hq
      have h1 := h.cl q (2 * (gen - 1) + 1) hq (by omega)
      have h2 := k _ h1
      have h3 := h.inv q (2 * (gen - 1) + 1) hq (by omega)
      rw [flp_odd] at h3
      rw [h3, hI _ h1] at h2
      have h4 := inv_act' h hJ h1
      rw [← h2] at h4
      exact h4.symm
/-- the generators that are left when one is struck out -/
def upC (gen c : Nat) : Nat := if c / 2 + 1 < gen then c else c + 2
theorem up_lt {gen c : Nat} (hg : 1 ≤ gen ∧ gen ≤ n) (hc : c < 2 * (n - 1)) : upC gen c < 2 * n := by unfold upC; split <;> omega
theorem up_flp (gen c : Nat) : upC gen (flp c) = flp (upC gen c) := by
  unfold upC Ct.flp
  by_cases h1 : c % 2 = 0
  · rw [if_pos h1]
    by_cases h2 : c / 2 + 1 < gen
    · rw [if_pos (by omega), if_pos h2, if_pos h1]
    · rw [if_neg (by omega), if_neg h2, if_pos (by omega)]
  · rw [if_neg h1]
    by_cases h2 : c / 2 + 1 < gen
    · rw [if_pos (by omega), if_pos h2, if_neg h1]
    · rw [if_neg (by omega), if_neg h2, if_neg (by omega)]; omega
theorem up_col {gen : Nat} {x : Int} (hg : 1 ≤ gen) (hx : x ≠ 0) (hn : isG gen x = false) : upC gen (col (lowI gen x)) = col x := by
  have h2 : ¬ (x = (gen : Int) ∨ x = -(gen : Int)) := fun e => by rw [isG_iff.2 e] at hn; cases hn
  unfold lowI
  by_cases h3 : x > (gen : Int)
  · rw [if_pos h3, col_pos (by omega), col_pos (by omega)]
    unfold upC
    rw [if_neg (by omega)]; omega
  · rw [if_neg h3]
    by_cases h4 : x < -(gen : Int)
    · rw [if_pos h4, col_neg (by omega), col_neg (by omega)]
      unfold upC
      rw [if_neg (by omega)]; omega
    · rw [if_neg h4]
      unfold upC
      rw [if_pos]
      by_cases h5 : 0 < x
      · rw [col_pos h5]; omega
      · rw [col_neg (by omega)]; omega
theorem mdl_up (h : Mdl n [] D act) {gen : Nat} (hg : 1 ≤ gen ∧ gen ≤ n) : Mdl (n - 1) [] D (fun p c => act p (upC gen c)) :=
  ⟨fun p c hp hc => h.cl p _ hp (up_lt hg hc), fun p c hp hc => by
    show act (act p (upC gen c)) (upC gen (flp c)) = p
    rw [up_flp]
    exact h.inv p _ hp (up_lt hg hc), fun p i _ hi => absurd hi (Nat.not_lt_zero _)⟩
/-- a word without the generator acts as it did, by whatever acts as the generators that are left did -/
theorem low_act {act' : α → Nat → α} {gen : Nat} (hg : 1 ≤ gen ∧ gen ≤ n) (he : ∀ p c, D p → c < 2 * (n - 1) → act' p c = act p (upC gen c)) (hD : ∀ p c, D p → c < 2 * n → D (act p c)) : ∀ {w : W} {p : α}, LOk n w → (∀ x ∈ w, isG gen x = false) → D p → actW act' p (lowW gen w) = actW act p w
  | [], _, _, _, _ => rfl
  | x :: w, p, hw, hn, hp => by
    have hx := hw x (List.mem_cons_self ..)
    have hl := low_ok (w := [x]) hg (fun y hy => by rw [List.mem_singleton.1 hy]; exact hx) (fun y hy => by rw [List.mem_singleton.1 hy]; exact hn x (List.mem_cons_self ..)) (lowI gen x) (List.mem_singleton_self _)
    show actW act' (act' p (col (lowI gen x))) (lowW gen w) = actW act (act p (col x)) w
    rw [he p _ hp (Ct.col_ltL hl), up_col hg.1 hx.2.2 (hn x (List.mem_cons_self ..))]
    exact low_act hg he hD (fun y hy => hw y (List.mem_cons_of_mem _ hy)) (fun y hy => hn y (List.mem_cons_of_mem _ hy)) (hD p _ hp (Ct.col_ltL hx))
/-- words for letters: they act as the letters do -/
theorem sb_act {m : Nat} {act' : α → Nat → α} {G : List W} (h : Mdl n [] D act) (h' : Mdl m [] D act') (hl : G.length = n) (hG : ∀ w ∈ G, LOk m w) (he : ∀ i, i < n → ∀ p, D p → actW act' p (G.getD i []) = act p (2 * i)) {z : W} (hz : LOk n z) {p : α} (hp : D p) : actW act' p (sbW G z) = actW act p z := by
  have hGi : ∀ i, i < n → LOk m (G.getD i []) := fun i hi => hG _ (getD_mem' (by omega))
  have key : ∀ k, k ≤ z.length → actW act' p (sbTo G z k) = actW act p (z.take k) := by
    intro k
    induction k with
    | zero => intro _; rfl
    | succ k ih =>
      intro hk
      have hx := hz.getD (show k < z.length by omega)
      have ih' := ih (by omega)
      rw [Ct.take_snoc0 (by omega), actW_app]
      have hs := sbTo_ok hG z k
      have hDp := h.clW (fun y hy => hz y (List.mem_of_mem_take hy)) hp (w := z.take k)
      show actW act' p (mulW (sbTo G z k) (if 0 < z.getD k 0 then G.getD (z.getD k 0 - 1).toNat [] else inv (G.getD (-(z.getD k 0) - 1).toNat []))) = act (actW act p (z.take k)) (col (z.getD k 0))
      unfold Ct.mulW
      generalize z.getD k 0 = x at *
      by_cases h0 : 0 < x
      · rw [if_pos h0, red_act h' (hs.app (hGi _ (by omega))) hp, actW_app, ih', he _ (by omega) _ hDp, col_pos h0]
      · have hi : (-x - 1).toNat < n := by omega
        rw [if_neg h0, red_act h' (hs.app (hGi _ hi).inv) hp, actW_app, ih', col_neg (by omega)]
        have h1 := h.cl _ (2 * (-x - 1).toNat + 1) hDp (by omega)
        have h2 := he _ hi _ h1
        have h3 := h.inv _ (2 * (-x - 1).toNat + 1) hDp (by omega)
        rw [flp_odd] at h3
        rw [h3] at h2
        have h4 := h'.invW (hGi _ hi) h1
        rw [h2] at h4
        exact h4
  have := key z.length (Nat.le_refl _)
  rwa [List.take_length] at this
/-- what an elimination is -/
theorem elim_parts {rels : List W} {rel gen : Nat} {l im : List W} (e : elimE n rels rel gen = .inl (l, im)) : ∃ a, onceW (rels.getD rel []) gen = some a ∧ n ≠ 1 ∧ im = imgsW n gen (imgW (rels.getD rel []) a) ∧ l = cleanL ((rels.eraseIdx rel).map (sbW im)) := by
  unfold elimE at e
  split at e
  · cases e
  · rename_i a ha
    split at e
    · cases e
    · rename_i hn
      simp only at e
      split at e
      · cases e
      · split at e
        · cases e
        · rename_i m hm
          split at e
          · cases e
          · injection e with e
            injection e with e1 e2
            obtain ⟨h1, -⟩ := sbL_some hm
            subst e1 e2 h1
            exact ⟨a, ha, hn, rfl, rfl⟩
/-- from the old generators to those that are left -/
theorem elim_fwd (h : Mdl n [] D act) {rels : List W} (hV : Vld n rels) {rel gen : Nat} (hrl : rel < rels.length) (hg : 1 ≤ gen ∧ gen ≤ n) {l im : List W} (e : elimE n rels rel gen = .inl (l, im)) (hf : ∀ w ∈ rels, Fix D act w) :
    Mdl (n - 1) [] D (fun p c => act p (upC gen c)) ∧ (∀ w ∈ l, Fix D (fun p c => act p (upC gen c)) w) ∧ ∀ i, i < n → ∀ p, D p → actW (fun p c => act p (upC gen c)) p (im.getD i []) = act p (2 * i) := by
  obtain ⟨a, ho, hn, rfl, rfl⟩ := elim_parts e
  obtain ⟨-, hC, hil, hio, -⟩ := elim_cln hV hrl hg e
  have hm := getD_mem' hrl
  have hrok := hV.ok _ hm
  have h' := mdl_up h hg
  obtain ⟨ha, -, ht, hd⟩ := onceW_spec ho
  have hI : ∀ i, i < n → ∀ p, D p → actW (fun p c => act p (upC gen c)) p ((imgsW n gen (imgW (rels.getD rel []) a)).getD i []) = act p (2 * i) := fun i hi p hp => by
    rw [imgs_get hi]
    split
    · rename_i eg
      have hio' : LOk n (imgW (rels.getD rel []) a) ∧ ∀ x ∈ imgW (rels.getD rel []) a, isG gen x = false := by
        have hx : ∀ x ∈ imgW (rels.getD rel []) a, (-(n : Int) ≤ x ∧ x ≤ n ∧ x ≠ 0) ∧ isG gen x = false := fun x hx => by
          have hh : ∀ y, (y ∈ (rels.getD rel []).take a ∨ y ∈ (rels.getD rel []).drop (a + 1)) → (-(n : Int) ≤ y ∧ y ≤ n ∧ y ≠ 0) ∧ isG gen y = false := fun y hy => by
            rcases hy with hy | hy
            · exact ⟨hrok y (List.mem_of_mem_take hy), ht y hy⟩
            · exact ⟨hrok y (List.mem_of_mem_drop hy), hd y hy⟩
          rcases img_mem hx with q | q
          · exact hh x q
          · have := hh _ q
            refine ⟨by omega, ?_⟩
            cases e : isG gen x with
            | false => rfl
            | true => rw [isG_iff] at e; rw [isG_iff.2 (by omega)] at this; exact absurd this.2 (by simp)
        exact ⟨fun x q => (hx x q).1, fun x q => (hx x q).2⟩
      rw [low_act hg (fun _ _ _ _ => rfl) h.cl hio'.1 hio'.2 hp, ← (img_rel h hg hrok ho).1 (hf _ hm) p hp]
      congr 1
      omega
    · rename_i hne
      have hx1 : isG gen ((i : Int) + 1) = false := by
        cases e : isG gen ((i : Int) + 1) with
        | false => rfl
        | true => rw [isG_iff] at e; omega
      rw [low_act hg (fun _ _ _ _ => rfl) h.cl (fun y hy => by rw [List.mem_singleton.1 hy]; omega) (fun y hy => by rw [List.mem_singleton.1 hy]; exact hx1) hp]
      show act p (col ((i : Int) + 1)) = _
      rw [col_pos (by omega)]
      congr 1
      omega
  refine ⟨h', ?_, hI⟩
  refine (fix_clean h' fun w hw => ?_).2 fun w hw => ?_
  · obtain ⟨z, -, rfl⟩ := List.mem_map.1 hw
    exact sbTo_ok hio z _
  · obtain ⟨z, hz, rfl⟩ := List.mem_map.1 hw
    have hzr := List.mem_of_mem_eraseIdx hz
    exact fun p hp => (sb_act h h' hil hio hI (hV.ok z hzr) hp).trans (hf z hzr p hp)
end
end Go.Proofs.Tz
namespace Go.Proofs
open Go.RowKit Go.Shelf Go.Proofs.Ct Go.Proofs.Tz Go.Maps
def actM (M : List (List Nat)) (p c : Nat) : Nat := if c % 2 = 0 then (M.getD (c / 2) []).getD p 0 else (M.getD (c / 2) []).idxOf p
theorem actM_even (M : List (List Nat)) (p q : Nat) : actM M p (2 * q) = (M.getD q []).getD p 0 := by
  unfold actM
  rw [if_pos (by omega), show 2 * q / 2 = q by omega]
theorem actM_odd (M : List (List Nat)) (p q : Nat) : actM M p (2 * q + 1) = (M.getD q []).idxOf p := by
  unfold actM
  rw [if_neg (by omega), show (2 * q + 1) / 2 = q by omega]
theorem actM_pos {M : List (List Nat)} {p q : Nat} {l : Int} (h : l = (q : Int) + 1) : actM M p (col l) = (M.getD q []).getD p 0 := by
  rw [Tz.col_pos (by omega), show (l - 1).toNat = q by omega, actM_even]
theorem actM_neg {M : List (List Nat)} {p q : Nat} {l : Int} (h : l = -((q : Int) + 1)) : actM M p (col l) = (M.getD q []).idxOf p := by
  rw [Tz.col_neg (by omega), show (-l - 1).toNat = q by omega, actM_odd]
section
variable {d : Nat} {M : List (List Nat)}
theorem row_prm (h : ∀ a ∈ M, Prm d a) {q : Nat} (hq : q < M.length) : Prm d (M.getD q []) := h _ (by
  rw [List.getD_eq_getElem?_getD, List.getElem?_eq_getElem hq]
  exact List.getElem_mem hq)
theorem actM_lt (h : ∀ a ∈ M, Prm d a) {p c : Nat} (hp : p < d) (hc : c < 2 * M.length) : actM M p c < d := by
  unfold actM
  have := row_prm h (q := c / 2) (by omega)
  split
  · exact this.get_lt hp
  · exact (this.back hp).1
theorem actM_inv (h : ∀ a ∈ M, Prm d a) {p c : Nat} (hp : p < d) (hc : c < 2 * M.length) : actM M (actM M p c) (flp c) = p := by
  have k := row_prm h (q := c / 2) (by omega)
  have : c = 2 * (c / 2) ∨ c = 2 * (c / 2) + 1 := by omega
  generalize c / 2 = q at *
  rcases this with rfl | rfl
  · rw [flp_even, actM_even, actM_odd]
    exact k.back_get hp
  · rw [flp_odd, actM_odd, actM_even]
    exact (k.back hp).2
theorem mdl_M (h : ∀ a ∈ M, Prm d a) : Mdl M.length [] (fun x => x < d) (actM M) :=
  ⟨fun _ _ hp hc => actM_lt h hp hc, fun _ _ hp hc => actM_inv h hp hc, fun _ _ _ hi => absurd hi (Nat.not_lt_zero _)⟩
theorem actWM_lt (h : ∀ a ∈ M, Prm d a) : ∀ (ws : Ct.W) {x : Nat}, x < d → LOk M.length ws → actW (actM M) x ws < d
  | [], _, hx, _ => hx
  | l :: ws, _, hx, hw => actWM_lt h ws (actM_lt h hx (by
      have := hw l (by simp)
      rcases Int.lt_or_lt_of_ne this.2.2 with h1 | h1
      · rw [Tz.col_neg h1]; omega
      · rw [Tz.col_pos h1]; omega)) fun y hy => hw y (by simp [hy])
/-- all relators act trivially -/
def satB (M : List (List Nat)) (d : Nat) (rels : List Ct.W) : Bool := rels.all fun w => (List.range d).all fun x => actW (actM M) x w == x
theorem satB_true {rels : List Ct.W} : satB M d rels = true ↔ ∀ k, k < rels.length → ∀ x, x < d → actW (actM M) x (rels.getD k []) = x := by
  unfold satB
  rw [List.all_eq_true]
  constructor
  · intro h k hk x hx
    have := h (rels.getD k []) (by rw [List.getD_eq_getElem?_getD, List.getElem?_eq_getElem hk]; exact List.getElem_mem hk)
    rw [List.all_eq_true] at this
    simpa using this x (List.mem_range.2 hx)
  · intro h w hw
    obtain ⟨k, hk, rfl⟩ := List.getElem_of_mem hw
    rw [List.all_eq_true]
    intro x hx
    have := h k hk x (List.mem_range.1 hx)
    rw [List.getD_eq_getElem?_getD, List.getElem?_eq_getElem hk] at this
    simpa using this
theorem satB_false {rels : List Ct.W} {k x : Nat} (hk : k < rels.length) (hx : x < d) (h : actW (actM M) x (rels.getD k []) ≠ x) : satB M d rels = false := by
  rw [Bool.eq_false_iff]
  exact fun e => h (satB_true.1 e k hk x hx)
end
/-- the letters' lists that have been put -/
structure ActG (w : World) (bp : Nat) (M : List (List Nat)) (d k : Nat) (wr : World) : Prop where
  map : ∃ n f, n ≤ 2 * k ∧ MapV wr bp n f ∧ ∀ l : Int, l ≠ 0 → -(k : Int) ≤ l → l ≤ (k : Int) → Col wr (f l) d (fun y => actM M y (col l))
  ge : w.heap.size ≤ bp
  below : Below w.heap.size w wr
theorem ActG.start {w w1 : World} (hb : Below w.heap.size w w1) (M : List (List Nat)) (d : Nat) : ActG w w1.heap.size M d 0 (w1.alloc (.map #[] 0)) :=
  ⟨⟨0, _, by omega, MapV.made w1, fun l h1 h2 h3 => absurd (by omega : l = 0) h1⟩, hb.size, hb.alloc hb.size _⟩
theorem ActG.put {w : World} {bp : Nat} {M : List (List Nat)} {d k : Nat} {wr w1 : World} {vL vI : Value} (h : ActG w bp M d k wr) (hk : k < 100) (hb : Below wr.heap.size wr w1) (hL : Col w1 vL d (fun y => actM M y (col ((k : Int) + 1)))) (hI : Col w1 vI d (fun y => actM M y (col (-(k : Int) - 1)))) :
    ∃ w2 w3, (Instr.mapUpdate 72 (.map (some bp)) (.int .i64 ((k : Int) + 1)) vL).run Try.prog w1 = .ok () w2 ∧ (Instr.mapUpdate 72 (.map (some bp)) (.int .i64 (-(k : Int) - 1)) vI).run Try.prog w2 = .ok () w3 ∧ ActG w bp M d (k + 1) w3 := by
  obtain ⟨n, f, hn, hm, hf⟩ := h.map
  have hm1 := hm.below hb
  obtain ⟨w2, hr2, hm2, hg2⟩ := hm1.put (s := (k : Int) + 1) ⟨by omega, by omega⟩ (by omega) vL
  obtain ⟨w3, hr3, hm3, hg3⟩ := hm2.put (s := -(k : Int) - 1) ⟨by omega, by omega⟩ (by omega) vI
  have hbw : Below w.heap.size w w1 := bl3T h.below hb
  refine ⟨w2, w3, hr2, hr3, ⟨_, _, by omega, hm3, fun l h1 h2 h3 => ?_⟩, h.ge, grown_below rfl (grown_below rfl hbw hg2 fun r hr => ?_) hg3 fun r hr => ?_⟩
  · show Col w3 (if l = -(k : Int) - 1 then vI else if l = (k : Int) + 1 then vL else f l) d _
    by_cases e1 : l = -(k : Int) - 1
    · rw [if_pos e1, e1]
      exact (hI.grown hm1 hg2).grown hm2 hg3
    · rw [if_neg e1]
      by_cases e2 : l = (k : Int) + 1
      · rw [if_pos e2, e2]
        exact (hL.grown hm1 hg2).grown hm2 hg3
      · rw [if_neg e2]
        exact (((hf l h1 (by omega) (by omega)).below hb).grown hm1 hg2).grown hm2 hg3
  · cases hr; exact h.ge
  · cases hr; exact h.ge
theorem ActG.look {w : World} {bp : Nat} {M : List (List Nat)} {d m : Nat} {wr : World} (h : ActG w bp M d m wr) (hm0 : m ≤ 100) {l : Int} (hl : -((m : Nat) : Int) ≤ l ∧ l ≤ ((m : Nat) : Int) ∧ l ≠ 0) {y : Nat} (hy : y < d) :
    ∃ b' o' c', (Instr.lookup 72 (.map (some bp)) (.int .i64 l) false).run Try.prog wr = .ok (.slice (some ⟨b', o', none⟩) d c') wr ∧ wr.cell? ⟨b', o' + y, none⟩ = some (.int .i64 ((actM M y (col l) : Nat) : Int)) := by
  obtain ⟨n, f, hn, hm, hf⟩ := h.map
  obtain ⟨h1, h2, h3⟩ := hl
  obtain ⟨b', o', c', e, hc⟩ := hf l h3 h1 h2
  have := hm.look (s := l) ⟨by omega, by omega⟩
  rw [e] at this
  exact ⟨b', o', c', this, hc y hy⟩
theorem rows_at {w : World} {vm : Value} {M : List (List Nat)} {d : Nat} (h : Tab w vm (M.map nz)) (hM : ∀ a ∈ M, Prm d a) (hd : 1 ≤ d) (h0 : 0 < M.length) : ∃ bm om cm, vm = .slice (some ⟨bm, om, none⟩) M.length cm ∧ ∀ q, q < M.length → ∃ bq oq cq, w.cell? ⟨bm, om + q, none⟩ = some (.slice (some ⟨bq, oq, none⟩) d cq) ∧ IntsAt w (.slice (some ⟨bq, oq, none⟩) d cq) (nz (M.getD q [])) := by
  obtain ⟨A, c, rfl, -, -, hc⟩ := LAt.open_ h
  rw [List.length_map] at hc ⊢
  obtain ⟨bm, om, rfl, hr⟩ := hc h0
  refine ⟨bm, om, c, rfl, fun q hq => ?_⟩
  obtain ⟨u, hu, hi⟩ := hr q hq
  have e : (M.map nz).getD q [] = nz (M.getD q []) := by simp [List.getD_eq_getElem?_getD, hq]
  rw [e] at hi
  obtain ⟨A', c', rfl, -, -, hc'⟩ := hi.open_
  rw [length_nz, (row_prm hM hq).len] at hc' hu hi
  obtain ⟨b', o', rfl, hcc⟩ := hc' (by omega)
  exact ⟨b', o', c', hu, hi⟩
theorem colM_row {w : World} {M : List (List Nat)} {d q : Nat} {A : Option Addr} {c : Nat} (hM : ∀ a ∈ M, Prm d a) (hd : 1 ≤ d) (hq : q < M.length) (h : IntsAt w (.slice A d c) (nz (M.getD q []))) : Col w (.slice A d c) d (fun y => actM M y (col ((q : Int) + 1))) :=
  (Col.ints rfl h (row_prm hM hq).len hd).congr fun y _ => by rw [actM_pos rfl]
theorem colM_inv_row {w : World} {M : List (List Nat)} {d q : Nat} {A : Option Addr} {c : Nat} (hd : 1 ≤ d) (h : IntsAt w (.slice A d c) (nz ((List.range d).map (M.getD q []).idxOf))) : Col w (.slice A d c) d (fun y => actM M y (col (-(q : Int) - 1))) :=
  (Col.ints rfl h (by simp) hd).congr fun y hy => by
    rw [actM_neg (q := q) (by omega), List.getD_eq_getElem?_getD, List.getElem?_map, List.getElem?_range hy]
    rfl
end Go.Proofs
namespace Go.Proofs
open Go.RowKit Go.Shelf Go.Proofs.Ct Go.Maps
set_option maxRecDepth 100000 in
set_option maxHeartbeats 4000000 in
theorem sat16_any (w : World) (vr vm : Value) (M : List (List Nat)) (g d : Nat) (rels : List Ct.W) (hd : 1 ≤ d ∧ d ≤ 6) (hM : ∀ a ∈ M, Prm d a) (hg : M.length = g) (hg1 : 1 ≤ g ∧ g ≤ 16) (hm : Tab w vm (M.map nz)) (hR : Tab w vr rels) (he : presE (g : Int) rels = 0)
    (hok : ∀ j, j < rels.length → LOk g (rels.getD j [])) :
    Calls Try.prog 16 #[.agg #[.int .i64 (g : Int), vr], vm] w fun e w' => e = .returned (.tuple #[.bool (satB M d rels), .int .i64 0]) ∧ Below w.heap.size w w' := by
  obtain ⟨Ar, cr, rfl, hr1, hr2, -⟩ := LAt.open_ hR
  obtain ⟨bm, om, cm, rfl, hrow⟩ := rows_at hm hM hd.1 (by omega)
  rw [hg] at hrow ⊢
  have hbel : Below w.heap.size w (w.alloc (.cells #[.int .i64 (g : Int), .slice Ar rels.length cr] 27)) := (Below.refl _ _).alloc (Nat.le_refl _) _
  have hnew := heap_alloc_new w (.cells #[.int .i64 (g : Int), .slice Ar rels.length cr] 27)
  have HBE := Lib.hid hbel
  have HBX : Hid (∀ W, Below (w.alloc (.cells #[.int .i64 (g : Int), .slice Ar rels.length cr] 27)).heap.size (w.alloc (.cells #[.int .i64 (g : Int), .slice Ar rels.length cr] 27)) W → W.cell? ⟨w.heap.size, 0, none⟩ = some (.int .i64 (g : Int)) ∧ W.cell? ⟨w.heap.size, 1, none⟩ = some (.slice Ar rels.length cr)) := Lib.hid fun W h => cell_of2 ((h.block _ (Array.getElem?_eq_some_iff.1 hnew).1).trans hnew)
  have HBP := Lib.hid hnew
  have H78 : Hid (∀ W, Below w.heap.size w W → Calls Try.prog 19 #[.agg #[.int .i64 (g : Int), .slice Ar rels.length cr]] W fun e w' => (∃ y, e = .returned (.tuple #[.int .i64 0, .int .i64 y])) ∧ Below W.heap.size W w') := Lib.hid fun W h => (pcheck78_any W _ (g : Int) rels (kept_tab.below hR h)).mono fun e w' (⟨⟨y, h1⟩, h2⟩ : PresPost _ _ W e w') => ⟨⟨y, by rw [h1, he]⟩, h2⟩
  have HROW : Hid (∀ W, Below w.heap.size w W → ∀ q, q < g → ∃ bq oq cq, W.cell? ⟨bm, om + q, none⟩ = some (.slice (some ⟨bq, oq, none⟩) d cq) ∧ Col W (.slice (some ⟨bq, oq, none⟩) d cq) d (fun y => actM M y (col ((q : Int) + 1))) ∧
      Calls Try.prog 33 #[.slice (some ⟨bq, oq, none⟩) d cq, .int .i64 (d : Int)] W fun e w' => (∃ A c, e = .returned (.tuple #[.slice A d c, .bool true]) ∧ Col w' (.slice A d c) d (fun y => actM M y (col (-(q : Int) - 1)))) ∧ Below W.heap.size W w') := Lib.hid fun W h q hq => by
    obtain ⟨bq, oq, cq, h1, h2⟩ := hrow q hq
    have h3 := h2.below h
    refine ⟨bq, oq, cq, (h.cell (p := ⟨bm, om + q, none⟩) (World.block_lt_of_cell? w _ h1)).trans h1, colM_row hM hd.1 (by omega) h3, (inv113_any W _ (M.getD q []) d hd (row_prm hM (by omega)) h3).mono ?_⟩
    rintro e w' ⟨⟨A, c, h4, h5⟩, h6⟩
    exact ⟨⟨A, c, h4, colM_inv_row hd.1 h5⟩, h6⟩
  have HTR : Hid (∀ W, Below w.heap.size w W → ∀ k, k < rels.length → ∃ br or_ Au cu, Ar = some ⟨br, or_, none⟩ ∧ W.cell? ⟨br, or_ + k, none⟩ = some (.slice Au (rels.getD k []).length cu) ∧ IntsAt W (.slice Au (rels.getD k []).length cu) (rels.getD k [])) := Lib.hid fun W h k hk => by
    obtain ⟨A', c', e', -, -, hcc⟩ := LAt.open_ (kept_tab.below hR h)
    obtain ⟨rfl, -, rfl⟩ := Value.slice.inj e'
    obtain ⟨br, or_, rfl, hc⟩ := hcc (by omega)
    obtain ⟨u, hu, hi⟩ := hc k hk
    obtain ⟨Au, cu, rfl, -, -, -⟩ := hi.open_
    exact ⟨br, or_, Au, cu, rfl, hu, hi⟩
  have HOK := Lib.hid hok
  have HLT : Hid (∀ x, x < d → ∀ ws, LOk g ws → actW (actM M) x ws < d) := Lib.hid fun x hx ws hw => actWM_lt hM ws hx (hg ▸ hw)
  have HSF : Hid (∀ k x, k < rels.length → x < d → actW (actM M) x (rels.getD k []) ≠ x → satB M d rels = false) := Lib.hid fun k x hk hx h => satB_false hk hx h
  have HST0 : Hid ((∀ k, k < rels.length → ∀ x, x < d → actW (actM M) x (rels.getD k []) = x) → satB M d rels = true) := Lib.hid satB_true.2
  generalize satB M d rels = sb at *
  have hd0 : (1 : Int) ≤ (d : Int) := by omega
  have hd6 : (d : Int) ≤ 6 := by omega
  have hrl : (rels.length : Int) ≤ 9223372036854775807 := by omega
  have hrl0 : (0 : Int) ≤ (rels.length : Int) := Int.natCast_nonneg _
  have hmm : ∀ w, (Instr.makeMap 72 none).run Try.prog w = .ok (.map (some w.heap.size)) (w.alloc (.map #[] 0)) := fun _ => rfl
  have hg0 : (1 : Int) ≤ (g : Int) := by omega
  have hg6 : (g : Int) ≤ 16 := by omega
  clear hrow hm hR he hok hM hg hr1 hr2 hbel hnew hd
  go_enter Try.func16, Try.ntmps16
  go_wp2_with (first
    | ((with_reducible refine wpList_sel 21 ?_); refine wpList_val rfl (r_loadAt 27 (.tmp 2) _ _ rfl rfl (load40 HBP.out)) ?_))
  generalize w.alloc (.cells #[.int .i64 (g : Int), .slice Ar rels.length cr] 27) = wb at *
  refine (H78.out _ HBE.out).mono ?_
  rintro e v1 ⟨⟨y, rfl⟩, hb⟩
  obtain ⟨x1, x2⟩ := HBX.out _ hb
  have HB1 := Lib.hid (HBE.out.trans (hb.mono HBE.out.size))
  have HBX1 := Lib.hid hb
  obtain ⟨bq0, oq0, cq0, x3, -, -⟩ := HROW.out _ HB1.out 0 (by omega)
  rw [Nat.add_zero] at x3
  clear hb
  go_wp2_with fail
  clear x1 x2 x3
  have HA0 := Lib.hid (ActG.start HBX1.out M d)
  generalize hbp : v1.heap.size = bp at *
  go_loopw [46] (fun i wr => ∃ k : Nat, i = .int .i64 (k : Int) ∧ k ≤ g ∧ Hid (ActG wb bp M d k wr)) (fun i _ => g - (intOf i).toNat)
  case atStart => exact ⟨0, rfl, by omega, HA0⟩
  case round =>
    obtain ⟨k, rfl, hk, HA⟩ := hrel
    have hk0 : (0 : Int) ≤ (k : Int) := Int.natCast_nonneg _
    have HWB := Lib.hid (HBE.out.trans (HA.out.below.mono HBE.out.size))
    by_cases hk2 : k < g
    · have hk2' : (k : Int) < (g : Int) := by omega
      obtain ⟨bq, oq, cq, x1, hcol, hcall⟩ := HROW.out _ HWB.out k hk2
      have HCOL := Lib.hid hcol
      have HCALL := Lib.hid hcall
      clear hcol hcall
      go_wp2_with fail
      refine HCALL.out.mono ?_
      rintro e v2 ⟨⟨A, c, rfl, hci⟩, hb⟩
      obtain ⟨w2, w3, hr2, hr3, hA3⟩ := HA.out.put (by omega) hb (HCOL.out.below hb) hci
      have HR2 := Lib.hid hr2
      have HR3 := Lib.hid hr3
      have HA3 := Lib.hid hA3
      clear hr2 hr3 hA3 hci hb x1
      go_wp2_with (first
        | ((with_reducible refine wpList_selMu 72 59 61 66 ?_); refine wpList_skip rfl (r_mu 72 (.tmp 59) (.tmp 61) (.tmp 66) rfl rfl rfl rfl HR2.out) ?_)
        | ((with_reducible refine wpList_selMu 72 62 65 67 ?_); refine wpList_skip rfl (r_mu 72 (.tmp 62) (.tmp 65) (.tmp 67) rfl rfl rfl rfl HR3.out) ?_))
      go_roundw
      case rel => exact ⟨k + 1, by go_num, by omega, HA3⟩
      case measure => simp [intOf]; omega
    · obtain rfl : g = k := by omega
      obtain ⟨x1, x2⟩ := HBX.out _ HA.out.below
      clear HA0 hk hk2
      go_wp2_with fail
      clear x1 x2
      go_loopw [72] (fun i wr2 => ∃ k : Nat, i = .int .i64 (k : Int) ∧ k ≤ rels.length ∧ Hid (∀ k', k' < k → ∀ x, x < d → actW (actM M) x (rels.getD k' []) = x) ∧ wr2 = wr) (fun i _ => rels.length - (intOf i).toNat)
      case atStart => exact ⟨0, rfl, Nat.zero_le _, Lib.hid (fun k' h => absurd h (Nat.not_lt_zero _)), by first | trivial | rfl⟩
      case round =>
        obtain ⟨k, rfl, hk, HDN, rfl⟩ := hrel
        have hk0 : (0 : Int) ≤ (k : Int) := Int.natCast_nonneg _
        by_cases hkl : k < rels.length
        · have hkl' : (k : Int) < (rels.length : Int) := by omega
          obtain ⟨br, or_, Au, cu, rfl, x1, hI⟩ := HTR.out _ HWB.out k hkl
          obtain ⟨A', c', e', hu1, hu2, hcc⟩ := hI.open_
          obtain ⟨rfl, -, rfl⟩ := Value.slice.inj e'
          have HCC := Lib.hid hcc
          have HOW := Lib.hid (HOK.out k hkl)
          have HSK : Hid (∀ x, x < d → actW (actM M) x (rels.getD k []) ≠ x → sb = false) := Lib.hid fun x hx h => HSF.out k x hkl hx h
          have HNX : Hid ((∀ x, x < d → actW (actM M) x (rels.getD k []) = x) → ∀ k', k' < k + 1 → ∀ x, x < d → actW (actM M) x (rels.getD k' []) = x) := Lib.hid fun h k' hk' x hx => by
            rcases Nat.lt_succ_iff_lt_or_eq.1 hk' with h1 | rfl
            · exact HDN.out k' h1 x hx
            · exact h x hx
          clear hcc hI e'
          generalize rels.getD k [] = ws at *
          have hwl : (ws.length : Int) ≤ 9223372036854775807 := by omega
          have hwl0 : (0 : Int) ≤ (ws.length : Int) := Int.natCast_nonneg _
          clear hu1 hu2
          go_wp2_with fail
          clear x1
          go_loopw [77] (fun i wr2 => ∃ x : Nat, i = .int .i64 (x : Int) ∧ x ≤ d ∧ Hid (∀ x', x' < x → actW (actM M) x' ws = x') ∧ wr2 = wr) (fun i _ => d - (intOf i).toNat)
          case atStart => exact ⟨0, rfl, Nat.zero_le _, Lib.hid (fun k' h => absurd h (Nat.not_lt_zero _)), by first | trivial | rfl⟩
          case round =>
            obtain ⟨x, rfl, hx, HXD, rfl⟩ := hrel
            have hx0 : (0 : Int) ≤ (x : Int) := Int.natCast_nonneg _
            by_cases hxd : x < d
            · have hxd' : (x : Int) < (d : Int) := by omega
              go_wp2_with fail
              go_loopw [17, 83] (fun yv i wr2 => ∃ j : Nat, i = .int .i64 (j : Int) ∧ j ≤ ws.length ∧ yv = .int .i64 ((actW (actM M) x (ws.take j) : Nat) : Int) ∧ wr2 = wr) (fun _ i _ => ws.length - (intOf i).toNat)
              case atStart => exact ⟨0, rfl, Nat.zero_le _, rfl, by first | trivial | rfl⟩
              case round =>
                obtain ⟨j, rfl, hj, rfl, rfl⟩ := hrel
                have hj0 : (0 : Int) ≤ (j : Int) := Int.natCast_nonneg _
                by_cases hjl : j < ws.length
                · have hjl' : (j : Int) < (ws.length : Int) := by omega
                  obtain ⟨bu, ou, rfl, hcell⟩ := HCC.out (by omega)
                  have x1 := hcell j hjl
                  have hy := HLT.out x hxd (ws.take j) (fun z hz => HOW.out z (List.mem_of_mem_take hz))
                  have hlo := HOW.out (ws.getD j 0) (by rw [List.getD_eq_getElem?_getD, List.getElem?_eq_getElem hjl]; exact List.getElem_mem hjl)
                  have HST : Hid (actW (actM M) x (ws.take (j + 1)) = actM M (actW (actM M) x (ws.take j)) (col (ws.getD j 0))) := Lib.hid (actW_take hjl)
                  obtain ⟨b', o', c2', hlk, x2⟩ := HA.out.look (by omega) hlo hy
                  have HLK := Lib.hid hlk
                  rw [← HST.out] at x2
                  clear hlk hlo hcell HST
                  generalize hz : actW (actM M) x (ws.take (j + 1)) = z at *
                  have HZ := Lib.hid hz
                  clear hz
                  generalize actW (actM M) x (ws.take j) = y at *
                  generalize ws.getD j 0 = l at *
                  have hy0 : (0 : Int) ≤ (y : Int) := Int.natCast_nonneg _
                  have hy1 : (y : Int) < (d : Int) := by omega
                  go_wp2_with (first
                    | ((with_reducible refine wpList_sel 89 ?_); refine wpList_val rfl (r_look 72 (.tmp 87) (.tmp 88) rfl rfl rfl HLK.out) ?_))
                  go_roundw
                  case rel =>
                    refine ⟨j + 1, ?_, by omega, ?_, trivial⟩
                    · go_num
                    · rw [HZ.out]
                  case measure => simp [intOf]; omega
                · obtain rfl : j = ws.length := by omega
                  rw [List.take_length]
                  by_cases e1 : actW (actM M) x ws = x
                  · have HXE := Lib.hid e1
                    rw [e1]
                    have d1 : ((x : Int) != (x : Int)) = false := by simp
                    clear e1
                    go_wp2_with fail
                    go_roundw
                    case rel =>
                      refine ⟨x + 1, by go_num, by omega, Lib.hid fun x' hx' => ?_, by first | trivial | rfl⟩
                      rcases Nat.lt_succ_iff_lt_or_eq.1 hx' with h1 | rfl
                      · exact HXD.out x' h1
                      · exact HXE.out
                    case measure => simp [intOf]; omega
                  · have HSB := Lib.hid (HSK.out x hxd e1)
                    generalize actW (actM M) x ws = z at *
                    have d1 : ((z : Int) != (x : Int)) = true := by rw [bne_iff_ne]; omega
                    clear e1
                    go_wp2_with fail
                    go_ret2
                    exact ⟨by rw [HSB.out]; rfl, HWB.out⟩
            · obtain rfl : x = d := by omega
              go_wp2_with fail
              go_roundw
              case rel => exact ⟨k + 1, by go_num, by omega, Lib.hid (HNX.out HXD.out), by first | trivial | rfl⟩
              case measure => simp [intOf]; omega
        · obtain rfl : k = rels.length := by omega
          have HSB := Lib.hid (HST0.out HDN.out)
          go_wp2_with fail
          go_ret2
          exact ⟨by rw [HSB.out]; rfl, HWB.out⟩
end Go.Proofs
