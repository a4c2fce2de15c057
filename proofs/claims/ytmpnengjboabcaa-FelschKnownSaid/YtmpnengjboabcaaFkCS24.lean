/- Lookahead, plainly: steps and the run; it ends with the coset table; (*looker).step; Lookahead, plainly: where there is room enough it is the plain procedure; Any two coset tables of the same subgroup are equal; What lookahead answers, plainly; the three strategies compared. -/
import Derived.Test.YtmpnengjboabcaaFkCS23
import Derived.Test.YtmpnengjboabcaaFkCS8
import Derived.Test.YtmpnengjboabcaaFkCS19
import Derived.Test.YtmpnengjboabcaaFkCS15
namespace Go.Proofs.Ct
def relL (m lim : Nat) (rels : List W) (i : Nat) (x : LS) : Option LS := if x.lost = false ∧ x.s.rp x.r = x.r then fillL m lim rels x (rels.getD i []) else some x
def colsL (m lim : Nat) (rels : List W) (x : LS) : Option LS := if x.lost = false ∧ x.s.rp x.r = x.r then colL m lim rels x 0 else some x
def nextL (x : LS) : LS := if x.lost = true then x else { x with r := x.r + 1 }
def clrL (x : LS) : LS := { x with lost := false }
def stepL (m lim : Nat) (rels : List W) (x : LS) : Option LS := ((optTo (relL m lim rels) rels.length (clrL x)).bind (colsL m lim rels)).map nextL
def runLN (m lim : Nat) (rels : List W) : Nat → LS → Option LS
  | 0, _ => none
  | n + 1, x => if x.s.t.length ≤ x.r then some x else
    match stepL m lim rels x with
    | none => none
    | some y => runLN m lim rels n y
def upot (lim : Nat) (x : LS) : Nat := (50 - x.looks) * (lim + 2) + (lim - x.r) + 1
def runL (m lim : Nat) (rels : List W) (x : LS) : Option LS := runLN m lim rels (upot lim x) x
def beginL (m : Nat) : LS := ⟨startS m, 0, false, 0, 0⟩
def subL (m lim : Nat) (rels sub : List W) (i : Nat) (x : LS) : Option LS := fillL m lim rels x (sub.getD i [])
def lookS (m lim : Nat) (rels sub : List W) : Option LS := (optTo (subL m lim rels sub) sub.length (beginL m)).bind (runL m lim rels)
section
variable {g lim : Nat} {rels sub : List W} {x y z : LS}
theorem relL_to (hr : ∀ j, j < rels.length → LOk g (rels.getD j [])) (hs : ∀ j, j < sub.length → LOk g (sub.getD j [])) (h : LGood g lim x) (hx : x.lost = false → x.r < x.s.t.length) {k : Nat} (hk : k ≤ rels.length) (e : optTo (relL (2 * g) lim rels) k x = some y) :
    LTo g lim rels sub x y ∧ (∀ js, js ≤ sub.length → LI g rels sub js x → y.lost = false → ∀ j, j < k → Clo y.s y.r (rels.getD j [])) := by
  refine optTo_inv (p := fun k y => LTo g lim rels sub x y ∧ (∀ js, js ≤ sub.length → LI g rels sub js x → y.lost = false → ∀ j, j < k → Clo y.s y.r (rels.getD j []))) ⟨.refl h hx, fun _ _ _ _ j hj => absurd hj (by omega)⟩ k (fun i y z hi ⟨h1, h2⟩ hz => ?_) y e
  unfold relL at hz
  by_cases hl : y.lost = false ∧ y.s.rp y.r = y.r
  · rw [if_pos hl] at hz
    obtain ⟨a, b⟩ := fillL_to (sub := sub) hr hs (hr i (by omega)) _ (Nat.le_refl _) h1.good (fun h' => ⟨h1.lt h', hl.2⟩) (.inl ⟨i, by omega, rfl⟩) z hz
    refine ⟨h1.trans a, fun js hj hli hlz j hjl => ?_⟩
    by_cases e : j = i
    · subst e; exact b hlz
    · exact a.keep _ (hr j (by omega)) hl.1 hlz (h2 js hj hli hl.1 j (by omega))
  · rw [if_neg hl] at hz
    cases hz
    refine ⟨h1, fun js hj hli hlz j hjl => ?_⟩
    have hrc := (h1.li js hj hli).rc
    have hlt := h1.lt hlz
    have hle := h1.good.good.rest.inv.rle _ hlt
    have hne : y.s.rp y.r ≠ y.r := fun h' => hl ⟨hlz, h'⟩
    exact clo_rp h1.good.good.rest.inv hlt (hrc (y.s.rp y.r) (by omega) (by omega) j (by omega))
theorem colsL_to (hr : ∀ j, j < rels.length → LOk g (rels.getD j [])) (hs : ∀ j, j < sub.length → LOk g (sub.getD j [])) (h : LGood g lim x) (hx : x.lost = false → x.r < x.s.t.length) (e : colsL (2 * g) lim rels x = some y) :
    LTo g lim rels sub x y ∧ (∀ js, js ≤ sub.length → LI g rels sub js x → y.lost = false → ∀ c, c < 2 * g → 0 ≤ y.s.t.at (y.s.rp y.r) c) := by
  unfold colsL at e
  by_cases hl : x.lost = false ∧ x.s.rp x.r = x.r
  · rw [if_pos hl] at e
    obtain ⟨a, b, c⟩ := colL_to (sub := sub) hr hs _ (Nat.le_refl _) h (fun h' => ⟨hx h', hl.2⟩) (fun _ d hd => absurd hd (by omega)) y e
    exact ⟨a, fun js hj hli hly d hd => by rw [(b hly).2]; exact c hly d hd⟩
  · rw [if_neg hl] at e
    cases e
    refine ⟨.refl h hx, fun js hj hli hly d hd => ?_⟩
    have hlt := hx hly
    have hle := h.good.rest.inv.rle _ hlt
    have hne : x.s.rp x.r ≠ x.r := fun h' => hl ⟨hly, h'⟩
    have := hli.comp (x.s.rp x.r) (by omega) (by omega) d hd
    rwa [h.good.rest.inv.rid _ hlt] at this
theorem LGood.clr (h : LGood g lim x) : LGood g lim (clrL x) := ⟨h.good, h.lk, h.rr, h.mi⟩
/-- a step -/
theorem step_to (hr : ∀ j, j < rels.length → LOk g (rels.getD j [])) (hs : ∀ j, j < sub.length → LOk g (sub.getD j [])) (h : LGood g lim x) (hx : x.r < x.s.t.length) (e : stepL (2 * g) lim rels x = some y) :
    LGood g lim y ∧ (∀ js, js ≤ sub.length → LI g rels sub js x → LI g rels sub js y) ∧ x.looks ≤ y.looks ∧ (y.looks = x.looks → y.r = x.r + 1 ∧ y.removed = x.removed) ∧ upot lim y < upot lim x := by
  unfold stepL at e
  obtain ⟨y1, e1, rfl⟩ := Option.map_eq_some_iff.1 e
  obtain ⟨y0, e0, e2⟩ := Option.bind_eq_some_iff.1 e1
  obtain ⟨a1, a2⟩ := relL_to (sub := sub) hr hs h.clr (fun _ => hx) (Nat.le_refl _) e0
  obtain ⟨b1, b2⟩ := colsL_to (sub := sub) hr hs a1.good a1.lt e2
  have ht := a1.trans b1
  have hli : ∀ js, js ≤ sub.length → LI g rels sub js x → LI g rels sub js (clrL x) := fun js hj hl => ⟨hl.comp, hl.rc, hl.subc, hl.univ⟩
  have hlk : x.looks ≤ y1.looks := ht.looks
  have hg := ht.good
  have hk1 := hg.lk
  have hk2 := hg.rr
  have hk3 := hg.good.n2
  have hk4 := h.good.n2
  by_cases hl : y1.lost = true
  · have e3 : nextL y1 = y1 := if_pos hl
    rw [e3]
    have hne : y1.looks ≠ x.looks := fun h' => by
      have := (ht.same h').2.2.1
      rw [hl] at this
      exact absurd this (by show ¬ true = false; simp)
    refine ⟨hg, fun js hj h' => ht.li js hj (hli js hj h'), hlk, fun h' => absurd h' hne, ?_⟩
    unfold upot
    obtain ⟨d, hd⟩ : ∃ d, 50 - x.looks = (50 - y1.looks) + d + 1 := ⟨y1.looks - x.looks - 1, by omega⟩
    rw [hd, Nat.add_mul, Nat.add_mul]
    omega
  · have hlf : y1.lost = false := by simpa using hl
    have e3 : nextL y1 = { y1 with r := y1.r + 1 } := if_neg hl
    rw [e3]
    have hlt := ht.lt hlf
    refine ⟨⟨hg.good, hg.lk, hlt, hg.mi⟩, fun js hj h' => ?_, hlk, fun h' => ?_, ?_⟩
    · have h1 := hli js hj h'
      have h2 := ht.li js hj h1
      refine ⟨fun z hz hzn c hc => ?_, fun z hz hzn j hjl => ?_, h2.subc, h2.univ⟩
      · rcases Nat.lt_or_ge z y1.r with h3 | h3
        · exact h2.comp z h3 hzn c hc
        · have hz' : z < y1.r + 1 := hz
          obtain rfl : z = y1.r := by omega
          exact b2 js hj (a1.li js hj h1) hlf c hc
      · rcases Nat.lt_or_ge z y1.r with h3 | h3
        · exact h2.rc z h3 hzn j hjl
        · have hz' : z < y1.r + 1 := hz
          obtain rfl : z = y1.r := by omega
          have hl0 : y0.lost = false := by
            cases e : y0.lost with
            | false => rfl
            | true => rw [b1.stay e, e] at hlf; cases hlf
          exact b1.keep _ (hr j hjl) hl0 hlf (a2 js hj h1 hl0 j hjl)
    · have h'' : y1.looks = (clrL x).looks := h'
      obtain ⟨c1, c2, -, -⟩ := ht.same h''
      exact ⟨by show y1.r + 1 = x.r + 1; rw [c1]; rfl, c2⟩
    · unfold upot
      show (50 - y1.looks) * (lim + 2) + (lim - (y1.r + 1)) + 1 < _
      by_cases h' : y1.looks = x.looks
      · have h'' : y1.looks = (clrL x).looks := h'
        have c1 : y1.r = x.r := (ht.same h'').1
        rw [h', c1]
        omega
      · obtain ⟨d, hd⟩ : ∃ d, 50 - x.looks = (50 - y1.looks) + d + 1 := ⟨y1.looks - x.looks - 1, by omega⟩
        rw [hd, Nat.add_mul, Nat.add_mul]
        omega
theorem runLN_fuel (hr : ∀ j, j < rels.length → LOk g (rels.getD j [])) : ∀ (n k : Nat) {x : LS}, LGood g lim x → upot lim x ≤ n → upot lim x ≤ k → runLN (2 * g) lim rels n x = runLN (2 * g) lim rels k x
  | 0, _, x, _, hn, _ => by unfold upot at hn; omega
  | n + 1, 0, x, _, _, hk => by unfold upot at hk; omega
  | n + 1, k + 1, x, h, hn, hk => by
    rw [runLN, runLN]
    by_cases hx : x.s.t.length ≤ x.r
    · rw [if_pos hx, if_pos hx]
    · rw [if_neg hx, if_neg hx]
      cases hy : stepL (2 * g) lim rels x with
      | none => rfl
      | some y =>
        simp only
        obtain ⟨a, -, -, -, b⟩ := step_to (sub := []) hr (fun j hj => absurd hj (by simp)) h (by omega) hy
        exact runLN_fuel hr n k a (by omega) (by omega)
theorem runL_step (hr : ∀ j, j < rels.length → LOk g (rels.getD j [])) (h : LGood g lim x) : runL (2 * g) lim rels x = if x.s.t.length ≤ x.r then some x else
    match stepL (2 * g) lim rels x with
    | none => none
    | some y => runL (2 * g) lim rels y := by
  unfold runL
  obtain ⟨n, hn⟩ : ∃ n, upot lim x = n + 1 := ⟨upot lim x - 1, by unfold upot; omega⟩
  rw [hn, runLN]
  by_cases hx : x.s.t.length ≤ x.r
  · rw [if_pos hx, if_pos hx]
  · rw [if_neg hx, if_neg hx]
    cases hy : stepL (2 * g) lim rels x with
    | none => rfl
    | some y =>
      simp only
      obtain ⟨a, -, -, -, b⟩ := step_to (sub := []) hr (fun j hj => absurd hj (by simp)) h (by omega) hy
      exact runLN_fuel hr _ _ a (by omega) (Nat.le_refl _)
theorem runL_to (hr : ∀ j, j < rels.length → LOk g (rels.getD j [])) (hs : ∀ j, j < sub.length → LOk g (sub.getD j [])) : ∀ (n : Nat) {x : LS}, upot lim x ≤ n → LGood g lim x → ∀ y, runL (2 * g) lim rels x = some y →
    LGood g lim y ∧ (∀ js, js ≤ sub.length → LI g rels sub js x → LI g rels sub js y) ∧ x.looks ≤ y.looks ∧ (y.looks = x.looks → y.removed = x.removed) ∧ y.s.t.length ≤ y.r
  | 0, x, hn, _, _, _ => by unfold upot at hn; omega
  | n + 1, x, hn, h, y, e => by
    rw [runL_step hr h] at e
    by_cases hx : x.s.t.length ≤ x.r
    · rw [if_pos hx] at e
      cases e
      exact ⟨h, fun _ _ h => h, Nat.le_refl _, fun _ => rfl, hx⟩
    · rw [if_neg hx] at e
      cases hz : stepL (2 * g) lim rels x with
      | none => rw [hz] at e; cases e
      | some z =>
        rw [hz] at e
        simp only at e
        obtain ⟨a1, a2, a3, a4, a5⟩ := step_to (sub := sub) hr hs h (by omega) hz
        obtain ⟨b1, b2, b3, b4, b5⟩ := runL_to hr hs n (by omega) a1 y e
        exact ⟨b1, fun js hj h' => b2 js hj (a2 js hj h'), by omega, fun h' => (b4 (by omega)).trans (a4 (by omega)).2, b5⟩
theorem begin_good (hl : 1 ≤ lim) : LGood g lim (beginL (2 * g)) := ⟨start_good hl, Nat.zero_le _, Nat.zero_le _, by
  have hst : (startS (2 * g)).t.length = 1 := by unfold startS; rw [length_add]; rfl
  show (startS (2 * g)).live ≤ (startS (2 * g)).most ∧ (startS (2 * g)).most ≤ (((startS (2 * g)).t.length + 0 : Nat) : Int)
  rw [hst]
  have h1 : (startS (2 * g)).live = 1 := rfl
  have h2 : (startS (2 * g)).most = 1 := rfl
  rw [h1, h2]
  omega⟩
theorem begin_li : LI g rels sub 0 (beginL (2 * g)) := ⟨fun z hz => absurd hz (by show ¬ z < 0; omega), fun z hz => absurd hz (by show ¬ z < 0; omega), fun j hj => absurd hj (by omega), fun {_ _ _ p0} _ h0 _ => ⟨fun _ => p0, start_mp h0, rfl⟩⟩
theorem subL_to (hr : ∀ j, j < rels.length → LOk g (rels.getD j [])) (hs : ∀ j, j < sub.length → LOk g (sub.getD j [])) (hl : 1 ≤ lim) {k : Nat} (hk : k ≤ sub.length) (e : optTo (subL (2 * g) lim rels sub) k (beginL (2 * g)) = some y) :
    LGood g lim y ∧ y.r = 0 ∧ y.lost = false ∧ LI g rels sub k y ∧ (y.looks = 0 → y.removed = 0) := by
  refine optTo_inv (p := fun k y => LGood g lim y ∧ y.r = 0 ∧ y.lost = false ∧ LI g rels sub k y ∧ (y.looks = 0 → y.removed = 0)) ⟨begin_good hl, rfl, rfl, begin_li, fun _ => rfl⟩ k (fun i y z hi ⟨h1, h2, h3, h4, h5⟩ hz => ?_) y e
  have h0 := rp_zero h1.good.rest h1.good.n1
  have hn := h1.good.n1
  obtain ⟨a, b⟩ := fillL_to (sub := sub) hr hs (hs i (by omega)) _ (Nat.le_refl _) h1 (fun _ => by rw [h2]; exact ⟨by omega, h0⟩) (.inr ⟨h2, i, by omega, rfl⟩) z hz
  obtain ⟨c1, c2⟩ := a.zero h2 h3
  have h6 := a.li i (by omega) h4
  refine ⟨a.good, c1, c2, ⟨h6.comp, h6.rc, fun j hj => ?_, h6.univ⟩, fun h' => ?_⟩
  · by_cases e : j = i
    · subst e
      have := b c2
      rwa [c1] at this
    · exact h6.subc j (by omega)
  · have h7 := a.looks
    rw [(a.same (by omega)).2.1]
    exact h5 (by omega)
/-- lookahead ends with the coset table -/
theorem coset_of_look (hg1 : 1 ≤ g) (hg16 : g ≤ 16) (hlim : lim ≤ 20000) (hl1 : 1 ≤ lim) (hr : ∀ j, j < rels.length → LOk g (rels.getD j [])) (hs : ∀ j, j < sub.length → LOk g (sub.getD j [])) (e : lookS (2 * g) lim rels sub = some y) :
    LGood g lim y ∧ Comp g y.s y.s.t.length ∧ (y.looks = 0 → y.removed = 0) ∧ Coset g rels sub (stdT (tabS y.s) 0) ∧ stdE g (tabS y.s) 0 = (stdT (tabS y.s) 0, 0) ∧ (stdT (tabS y.s) 0).length = (liv y.s).length := by
  unfold lookS at e
  obtain ⟨x, e0, e1⟩ := Option.bind_eq_some_iff.1 e
  obtain ⟨a1, a2, a3, a4, a5⟩ := subL_to hr hs hl1 (Nat.le_refl _) e0
  obtain ⟨b1, b2, b3, b4, b5⟩ := runL_to (sub := sub) hr hs _ (Nat.le_refl _) a1 y e1
  have h := b2 _ (Nat.le_refl _) a4
  have hC : Comp g y.s y.s.t.length := fun z hz hzn c hc => h.comp z (by omega) hzn c hc
  refine ⟨b1, hC, fun h' => ?_, coset_of_state hg1 hg16 hlim hr hs b1.good hC (fun z hz hzn j hj => h.rc z (by omega) hzn j hj) h.subc h.univ⟩
  rw [b4 (by omega)]
  exact a5 (by omega)
end
end Go.Proofs.Ct
namespace Go.Proofs
open Go.RowKit Go.Shelf Go.Proofs.Ct Go.Maps
/-- words that outlive what is kept -/
def WordsK (K : Nat → Prop) (base : Nat) (w : World) (v : Value) (l : List W) : Prop := ∃ w0, Tab w0 v l ∧ ∀ W, Keeps base K w W → Below w0.heap.size w0 W
section
variable {K : Nat → Prop} {base : Nat} {w : World} {v : Value} {l : List W}
theorem WordsK.tab (h : WordsK K base w v l) {W : World} (hb : Keeps base K w W) : Tab W v l := by
  obtain ⟨w0, ht, h0⟩ := h
  exact kept_tab.below ht (h0 W hb)
theorem WordsK.at_ (h : WordsK K base w v l) {k : Nat} (hk : k < l.length) : ∃ b o c u, v = .slice (some ⟨b, o, none⟩) l.length c ∧ ∀ W, Keeps base K w W → W.cell? ⟨b, o + k, none⟩ = some u ∧ IntsAt W u (l.getD k []) := by
  obtain ⟨w0, ht, h0⟩ := h
  obtain ⟨A, c, rfl, -, -, h3⟩ := ht.open_
  obtain ⟨b, o, rfl, h4⟩ := h3 (by omega)
  obtain ⟨u, hu, hI⟩ := h4 k hk
  exact ⟨b, o, c, u, rfl, fun W hW => ⟨((h0 W hW).cell (p := ⟨b, o + k, none⟩) (World.block_lt_of_cell? w0 _ hu)).trans hu, kept_ints.below hI (h0 W hW)⟩⟩
theorem WordsK.later (h : WordsK K base w v l) {w' : World} (hb : Keeps base K w w') : WordsK K base w' v l := by
  obtain ⟨w0, ht, h0⟩ := h
  exact ⟨w0, ht, fun W hW => h0 W (hb.trans hW)⟩
end
/-- the word lost is written -/
theorem LkF.lose {K : Nat → Prop} {vr : Value} {g base b m lim : Nat} {w : World} {x : LS} (h : LkF K vr g base b m lim w x) (l : Bool) : LkF K vr g base b m lim (w.setCell ⟨b, 10, none⟩ (.bool l)) { x with lost := l } ∧ Keeps base K w (w.setCell ⟨b, 10, none⟩ (.bool l)) := by
  obtain ⟨k, ⟨bl, cs, hs⟩, h1⟩ := h
  obtain ⟨h2, h3⟩ := hs.setEx ⟨by decide, by decide, by decide⟩ (k := 2) (by simp [exL]) (.bool l)
  exact ⟨⟨k, ⟨bl, cs, h2⟩, h1⟩, h3⟩
theorem LkF.goto {K : Nat → Prop} {vr : Value} {g base b m lim : Nat} {w : World} {x : LS} (h : LkF K vr g base b m lim w x) (r : Nat) : LkF K vr g base b m lim (w.setCell ⟨b, 9, none⟩ (.int .i64 (r : Int))) { x with r := r } ∧ Keeps base K w (w.setCell ⟨b, 9, none⟩ (.int .i64 (r : Int))) := by
  obtain ⟨k, ⟨bl, cs, hs⟩, h1⟩ := h
  obtain ⟨h2, h3⟩ := hs.setEx ⟨by decide, by decide, by decide⟩ (k := 1) (by simp [exL]) (.int .i64 (r : Int))
  exact ⟨⟨k, ⟨bl, cs, h2⟩, h1⟩, h3⟩
theorem LkF.alive {K : Nat → Prop} {vr : Value} {g base b m lim : Nat} {w : World} {x : LS} (h : LkF K vr g base b m lim w x) (hx : x.r < x.s.t.length) : Calls Try.prog 198 #[.pointer (some ⟨b, 0, none⟩), .int .i64 (x.r : Int)] w fun e w' => e = .returned (.bool (decide (x.s.rp x.r = x.r))) ∧ w' = w := by
  obtain ⟨k, ⟨bl, cs, hs⟩, -⟩ := h
  exact alive198_any K 176 _ bl cs base b m lim x.r w ⟨x.s, k⟩ hs hx
theorem LkF.look {K : Nat → Prop} {vr : Value} {g base b m lim : Nat} {w : World} {x : LS} (h : LkF K vr g base b m lim w x) : (∃ A c, w.cell? ⟨b, 2, none⟩ = some (.slice A x.s.t.length c)) ∧ w.cell? ⟨b, 7, none⟩ = some (.int .i64 x.s.most) ∧ w.cell? ⟨b, 8, none⟩ = some vr ∧ w.cell? ⟨b, 9, none⟩ = some (.int .i64 (x.r : Int)) ∧ w.cell? ⟨b, 10, none⟩ = some (.bool x.lost) ∧ w.cell? ⟨b, 11, none⟩ = some (.int .i64 (x.removed : Int)) ∧ w.cell? ⟨b, 12, none⟩ = some (.int .i64 (x.looks : Int)) ∧ (∀ k, w.frozen? ⟨b, k, none⟩ = false) ∧ x.s.t.length ≤ 1000 := by
  obtain ⟨k, hst, hfi, -⟩ := h
  obtain ⟨-, -, h2, -, h8, h9, h10, h11, h12, hf⟩ := hst.look
  exact ⟨h2, hst.live.2, h8, h9, h10, h11, h12, hf, hfi.n⟩
set_option maxRecDepth 100000 in
set_option maxHeartbeats 4000000 in
theorem step157_any (K : Nat → Prop) (vr : Value) (g m base b lim : Nat) (hm : m = 2 * g) (w : World) (x : LS) (rels : List W) (hS : LkF K vr g base b m lim w x) (hG : LGood g lim x) (hx : x.r < x.s.t.length) (hbw : base ≤ w.heap.size) (hlim : lim ≤ 1000) (hrl : rels.length ≤ 100000)
    (hv : WordsK K base w vr rels) (hr : ∀ j, LOk g (rels.getD j [])) (hwr : ∀ j, (rels.getD j []).length ≤ 1000000) :
    Calls Try.prog 157 #[.pointer (some ⟨b, 0, none⟩)] w fun e w' => ((∃ y, stepL m lim rels x = some y ∧ e = .returned (.tuple #[]) ∧ LkF K vr g base b m lim w' y) ∨ (stepL m lim rels x = none ∧ e = .panicked fullF)) ∧ Keeps base K w w' := by
  obtain ⟨Ar, cr, rfl⟩ := Tab.form (hv.tab (Keeps.refl _ _ _))
  have HFQ : Hid (stepL m lim rels x = ((optTo (relL m lim rels) rels.length (clrL x)).bind (colsL m lim rels)).map nextL) := Lib.hid rfl
  have HTO : Hid (∀ k y, k ≤ rels.length → optTo (relL m lim rels) k (clrL x) = some y → LGood g lim y ∧ (y.lost = false → y.r < y.s.t.length)) := Lib.hid fun k y hk e => by
    rw [hm] at e
    have h := relL_to (sub := []) (fun j _ => hr j) (fun j hj => absurd hj (by simp)) hG.clr (fun _ => hx) hk e
    exact ⟨h.1.good, h.1.lt⟩
  have HCO : Hid (∀ y z, LGood g lim y → (y.lost = false → y.r < y.s.t.length) → colsL m lim rels y = some z → LGood g lim z ∧ (z.lost = false → z.r < z.s.t.length)) := Lib.hid fun y z hy hl e => by
    rw [hm] at e
    have h := colsL_to (sub := []) (fun j _ => hr j) (fun j hj => absurd hj (by simp)) hy hl e
    exact ⟨h.1.good, h.1.lt⟩
  have HLOSE := Lib.hid (hS.lose false)
  obtain ⟨-, -, c8, -, c10, -, -, cf, -⟩ := hS.look
  have hf10 := cf 10
  have HG0 : Hid (LGood g lim (clrL x) ∧ ((clrL x).lost = false → (clrL x).r < (clrL x).s.t.length)) := Lib.hid ⟨hG.clr, fun _ => hx⟩
  generalize stepL m lim rels x = F at *
  have HBW := Lib.hid hbw
  have HVV := Lib.hid hv
  have HRR := Lib.hid hr
  have HWR := Lib.hid hwr
  have HM := Lib.hid hm
  have hrl0 : (0 : Int) ≤ (rels.length : Int) := Int.natCast_nonneg _
  have hrl1 : (rels.length : Int) ≤ 100000 := by omega
  clear hG hS hbw hv hr hwr hm cf hx
  go_enter Try.func157, Try.ntmps157
  go_wp2_with fail
  have hst1 := HLOSE.out
  generalize w.setCell ⟨b, 10, none⟩ (.bool false) = w1 at *
  have HS1 : Hid (LkF K (.slice Ar rels.length cr) g base b m lim w1 (clrL x)) := Lib.hid hst1.1
  have HK1 := Lib.hid hst1.2
  clear hst1 HLOSE c10 hf10 c8
  go_loopw [12] (fun i wr => ∃ (k : Nat) (y : LS), i = .int .i64 (k : Int) ∧ k ≤ rels.length ∧ Hid (optTo (relL m lim rels) k (clrL x) = some y ∧ LkF K (.slice Ar rels.length cr) g base b m lim wr y ∧ LGood g lim y ∧ (y.lost = false → y.r < y.s.t.length)) ∧ Hid (Keeps base K w wr)) (fun i _ => rels.length - (intOf i).toNat)
  case atStart => exact ⟨0, clrL x, rfl, Nat.zero_le _, Lib.hid ⟨rfl, HS1.out, HG0.out.1, HG0.out.2⟩, HK1⟩
  case round =>
    clear HS1 HK1 HG0
    obtain ⟨k, y, rfl, hk, HI, HB⟩ := hrel
    have hk0 : (0 : Int) ≤ (k : Int) := Int.natCast_nonneg _
    obtain ⟨⟨A2, cr2, c2⟩, -, c8, c9, c10, -, -, cf, hn1⟩ := HI.out.2.1.look
    have hr0 : (0 : Int) ≤ (y.r : Int) := Int.natCast_nonneg _
    have HALL : Hid (y.lost = false → ∀ q, Calls Try.prog 198 #[.pointer (some ⟨b, 0, none⟩), .int .i64 (y.r : Int)] (wr.drewN q) fun e w' => e = .returned (.bool (decide (y.s.rp y.r = y.r))) ∧ wr.drewN q = w') := Lib.hid fun hl q => ((HI.out.2.1.below (below_drewN (Below.refl _ _) q)).alive (HI.out.2.2.2 hl)).mono fun e w' ⟨h1, h2⟩ => ⟨h1, h2.symm⟩
    have HKD : Hid (∀ q, LkF K (.slice Ar rels.length cr) g base b m lim (wr.drewN q) y ∧ Keeps base K w (wr.drewN q)) := Lib.hid fun q => ⟨HI.out.2.1.below (below_drewN (Below.refl _ _) q), HB.out.trans ⟨below_drewN (Below.refl _ _) _, fun _ _ => rfl⟩⟩
    by_cases hlt : k < rels.length
    · have hltI : (k : Int) < (rels.length : Int) := by omega
      obtain ⟨bs, os, cr2, u, hvr, hcell⟩ := HVV.out.at_ hlt
      cases hvr
      obtain ⟨hu0, hI0⟩ := hcell wr HB.out
      obtain ⟨Au, cu, rfl, -, -, -⟩ := hI0.open_
      have HCELL := Lib.hid hcell
      clear hcell hI0
      have HOP : Hid (optTo (relL m lim rels) (k + 1) (clrL x) = relL m lim rels k y) := Lib.hid (by rw [optTo_succ, HI.out.1]; rfl)
      cases hlo : y.lost with
      | true =>
        rw [hlo] at c10
        have HOP2 : Hid (optTo (relL m lim rels) (k + 1) (clrL x) = some y) := Lib.hid (by rw [HOP.out]; unfold relL; rw [if_neg (by rw [hlo]; simp)])
        clear HALL
        generalize (rels.getD k []).length = lu at *
        go_wp2_with fail
        go_quiet (fail)
        go_wp2_with fail
        go_roundw
        case rel => exact ⟨k + 1, y, by go_num, by omega, Lib.hid ⟨HOP2.out, (HKD.out _).1, HI.out.2.2⟩, Lib.hid (HKD.out _).2⟩
        case measure => simp [intOf]; omega
      | false =>
        rw [hlo] at c10
        have HAL := Lib.hid (HALL.out hlo)
        have HLT := Lib.hid (HI.out.2.2.2 hlo)
        clear HALL
        by_cases hal : y.s.rp y.r = y.r
        · rw [decide_eq_true hal] at HAL
          have HRL : Hid (relL m lim rels k y = Ct.fillL m lim rels y (rels.getD k [])) := Lib.hid (by unfold relL; rw [if_pos ⟨hlo, hal⟩])
          have HFI := Lib.hid (fun q => fill156_any K (.slice (some ⟨bs, os, none⟩) rels.length cr) g m base b lim HM.out (wr.drewN q) y rels (.slice Au (rels.getD k []).length cu) (rels.getD k []) (HKD.out q).1 HI.out.2.2.1 (fun _ => ⟨HLT.out, hal⟩) (Nat.le_trans HBW.out (HKD.out q).2.size) hlim (fun W hW => HVV.out.tab ((HKD.out q).2.trans hW)) HRR.out HWR.out (fun W hW => (HCELL.out W ((HKD.out q).2.trans hW)).2) (HRR.out k) (HWR.out k))
          cases hfl : Ct.fillL m lim rels y (rels.getD k []) with
          | none =>
            rw [hfl] at HFI HRL
            have HE : Hid (F = none) := Lib.hid (by rw [HFQ.out, optTo_none (k := k + 1) (by rw [HOP.out, HRL.out]) rels.length (by omega)]; rfl)
            have HFP : Hid (∀ q, Calls Try.prog 156 #[.pointer (some ⟨b, 0, none⟩), .slice Au (rels.getD k []).length cu] (wr.drewN q) fun e w' => e = .panicked fullF ∧ Keeps base K (wr.drewN q) w') := Lib.hid fun q => (HFI.out q).mono fun e w' ⟨h1, h2⟩ => by
              rcases h1 with ⟨y1, h1, -⟩ | ⟨-, h1⟩
              · cases h1
              · exact ⟨h1, h2⟩
            clear HFI hfl hal
            generalize (rels.getD k []).length = lu at *
            go_wp2_with fail
            go_quiet ((go_at_call 198; exact quiet_left (HAL.out _)))
            go_wp2_with (go_at_call 156; (with_reducible refine (HFP.out _).mono ?_); rintro E w2 ⟨rfl, hb2⟩; have HB2 := Lib.hid ((HKD.out _).2.trans hb2); clear hb2)
            exact ⟨rfl, .inr ⟨HE.out, rfl⟩, HB2.out⟩
          | some y1 =>
            rw [hfl] at HFI HRL
            have HOP2 : Hid (optTo (relL m lim rels) (k + 1) (clrL x) = some y1) := Lib.hid (by rw [HOP.out, HRL.out])
            have HN := Lib.hid (HTO.out (k + 1) y1 (by omega) HOP2.out)
            have HFP : Hid (∀ q, Calls Try.prog 156 #[.pointer (some ⟨b, 0, none⟩), .slice Au (rels.getD k []).length cu] (wr.drewN q) fun e w' => e = .returned (.tuple #[]) ∧ LkF K (.slice (some ⟨bs, os, none⟩) rels.length cr) g base b m lim w' y1 ∧ Keeps base K (wr.drewN q) w') := Lib.hid fun q => (HFI.out q).mono fun e w' ⟨h1, h2⟩ => by
              rcases h1 with ⟨y2, h1, h3, h4⟩ | ⟨h1, -⟩
              · cases h1
                exact ⟨h3, h4, h2⟩
              · cases h1
            clear HFI hfl hal
            generalize (rels.getD k []).length = lu at *
            go_wp2_with fail
            go_quiet ((go_at_call 198; exact quiet_left (HAL.out _)))
            go_wp2_with (go_at_call 156; (with_reducible refine (HFP.out _).mono ?_); rintro E w2 ⟨rfl, hs2, hb2⟩; have HS2 := Lib.hid hs2; have HB2 := Lib.hid ((HKD.out _).2.trans hb2); clear hs2 hb2)
            go_roundw
            case rel => exact ⟨k + 1, y1, by go_num, by omega, Lib.hid ⟨HOP2.out, HS2.out, HN.out⟩, HB2⟩
            case measure => simp [intOf]; omega
        · rw [decide_eq_false hal] at HAL
          have HOP2 : Hid (optTo (relL m lim rels) (k + 1) (clrL x) = some y) := Lib.hid (by rw [HOP.out]; unfold relL; rw [if_neg (fun h => hal h.2)])
          clear hal
          generalize (rels.getD k []).length = lu at *
          go_wp2_with fail
          go_quiet ((go_at_call 198; exact quiet_left (HAL.out _)))
          go_wp2_with fail
          go_roundw
          case rel => exact ⟨k + 1, y, by go_num, by omega, Lib.hid ⟨HOP2.out, (HKD.out _).1, HI.out.2.2⟩, Lib.hid (HKD.out _).2⟩
          case measure => simp [intOf]; omega
    · obtain rfl : rels.length = k := by omega
      clear hlt hk
      have HFR : Hid (F = (colsL m lim rels y).map nextL) := Lib.hid (by rw [HFQ.out, HI.out.1]; rfl)
      cases hlo : y.lost with
      | true =>
        rw [hlo] at c10
        have HE : Hid (F = some y) := Lib.hid (by rw [HFR.out]; unfold colsL nextL; rw [if_neg (by rw [hlo]; simp)]; simp [hlo])
        clear HALL
        go_wp2_with fail
        go_quiet (fail)
        go_wp2_with fail
        go_end0
        exact ⟨.inl ⟨y, HE.out, (by first | rfl | trivial), (HKD.out _).1⟩, (HKD.out _).2⟩
      | false =>
        rw [hlo] at c10
        have HAL := Lib.hid (HALL.out hlo)
        have HLT := Lib.hid (HI.out.2.2.2 hlo)
        have hrI : (y.r : Int) ≤ 1000 := by have := HLT.out; omega
        clear HALL
        by_cases hal : y.s.rp y.r = y.r
        · rw [decide_eq_true hal] at HAL
          have HCL : Hid (colsL m lim rels y = colL m lim rels y 0) := Lib.hid (by unfold colsL; rw [if_pos ⟨hlo, hal⟩])
          have HFI := Lib.hid (fun q => columns202_any K (.slice Ar rels.length cr) g m base b lim HM.out (wr.drewN q) y rels (HKD.out q).1 HI.out.2.2.1 (fun _ => ⟨HLT.out, hal⟩) (Nat.le_trans HBW.out (HKD.out q).2.size) hlim (fun W hW => HVV.out.tab ((HKD.out q).2.trans hW)) HRR.out HWR.out)
          cases hfl : colL m lim rels y 0 with
          | none =>
            rw [hfl] at HFI HCL
            have HE : Hid (F = none) := Lib.hid (by rw [HFR.out, HCL.out]; rfl)
            have HFP : Hid (∀ q, Calls Try.prog 202 #[.pointer (some ⟨b, 0, none⟩)] (wr.drewN q) fun e w' => e = .panicked fullF ∧ Keeps base K (wr.drewN q) w') := Lib.hid fun q => (HFI.out q).mono fun e w' ⟨h1, h2⟩ => by
              rcases h1 with ⟨y1, h1, -⟩ | ⟨-, h1⟩
              · cases h1
              · exact ⟨h1, h2⟩
            clear HFI hfl hal
            go_wp2_with fail
            go_quiet ((go_at_call 198; exact quiet_left (HAL.out _)))
            go_wp2_with (go_at_call 202; (with_reducible refine (HFP.out _).mono ?_); rintro E w2 ⟨rfl, hb2⟩; have HB2 := Lib.hid ((HKD.out _).2.trans hb2); clear hb2)
            exact ⟨rfl, .inr ⟨HE.out, rfl⟩, HB2.out⟩
          | some z =>
            rw [hfl] at HFI HCL
            have HFZ : Hid (F = some (nextL z)) := Lib.hid (by rw [HFR.out, HCL.out]; rfl)
            have HZ := Lib.hid (HCO.out y z HI.out.2.2.1 HI.out.2.2.2 HCL.out)
            have HFP : Hid (∀ q, Calls Try.prog 202 #[.pointer (some ⟨b, 0, none⟩)] (wr.drewN q) fun e w' => e = .returned (.tuple #[]) ∧ LkF K (.slice Ar rels.length cr) g base b m lim w' z ∧ Keeps base K (wr.drewN q) w') := Lib.hid fun q => (HFI.out q).mono fun e w' ⟨h1, h2⟩ => by
              rcases h1 with ⟨y2, h1, h3, h4⟩ | ⟨h1, -⟩
              · cases h1
                exact ⟨h3, h4, h2⟩
              · cases h1
            clear HFI hfl hal
            cases hzl : z.lost with
            | true =>
              have HE : Hid (F = some z) := Lib.hid (by rw [HFZ.out]; unfold nextL; rw [if_pos hzl])
              go_wp2_with fail
              go_quiet ((go_at_call 198; exact quiet_left (HAL.out _)))
              go_wp2_with (go_at_call 202; (with_reducible refine (HFP.out _).mono ?_); rintro E w2 ⟨rfl, hs2, hb2⟩
                           have e10 := hs2.look.2.2.2.2.1
                           rw [hzl] at e10
                           have HS2 := Lib.hid hs2; have HB2 := Lib.hid ((HKD.out _).2.trans hb2); clear hs2 hb2)
              go_end0
              exact ⟨.inl ⟨z, HE.out, (by first | rfl | trivial), HS2.out⟩, HB2.out⟩
            | false =>
              have HE : Hid (F = some { z with r := z.r + 1 }) := Lib.hid (by rw [HFZ.out]; unfold nextL; rw [if_neg (by rw [hzl]; simp)])
              have hz0 : (0 : Int) ≤ (z.r : Int) := Int.natCast_nonneg _
              have HZL : Hid (z.r < z.s.t.length) := Lib.hid (HZ.out.2 hzl)
              go_wp2_with fail
              go_quiet ((go_at_call 198; exact quiet_left (HAL.out _)))
              go_wp2_with (go_at_call 202; (with_reducible refine (HFP.out _).mono ?_); rintro E w2 ⟨rfl, hs2, hb2⟩
                           obtain ⟨-, -, -, e9, e10, -, -, ef, e13⟩ := hs2.look
                           have ef9 := ef 9
                           rw [hzl] at e10
                           have hz1 : (z.r : Int) ≤ 1000 := by have := HZL.out; omega
                           have HS2 := Lib.hid hs2; have HB2 := Lib.hid ((HKD.out _).2.trans hb2); clear hs2 hb2 ef)
              go_end0
              have h9 := HS2.out.goto (z.r + 1)
              exact ⟨.inl ⟨_, HE.out, (by first | rfl | trivial), h9.1⟩, HB2.out.trans h9.2⟩
        · rw [decide_eq_false hal] at HAL
          have HE : Hid (F = some { y with r := y.r + 1 }) := Lib.hid (by rw [HFR.out]; unfold colsL nextL; rw [if_neg (fun h => hal h.2)]; simp [hlo])
          have cf9 := cf 9
          have HGO := Lib.hid (fun q => (HKD.out q).1.goto (y.r + 1))
          clear hal cf
          go_wp2_with fail
          go_quiet ((go_at_call 198; exact quiet_left (HAL.out _)))
          go_wp2_with fail
          go_end0
          exact ⟨.inl ⟨_, HE.out, (by first | rfl | trivial), (HGO.out _).1⟩, (HKD.out _).2.trans (HGO.out _).2⟩
end Go.Proofs
namespace Go.Proofs.Ct
section
variable {g lim : Nat} {rels sub : List W} {x y z : LS}
def setR (x : LS) (r : Nat) (s : St) : LS := ⟨s, r, false, x.removed, x.looks⟩
end
end Go.Proofs.Ct
namespace Go.Proofs.Ct
section
variable {g lim : Nat} {rels sub : List W} {t u : Tb}
theorem len_le_inj {φ : Nat → Nat} {n k : Nat} (hl : ∀ x, x < n → φ x < k) (hi : ∀ x y, x < n → y < n → φ x = φ y → x = y) : n ≤ k := by
  have h := len_le_of_sub (a := (List.range n).map φ) (b := List.range k) (nodup_map_on (fun x hx y hy => hi x y (List.mem_range.1 hx) (List.mem_range.1 hy)) List.nodup_range) fun x hx => by
    obtain ⟨y, hy, rfl⟩ := List.mem_map.1 hx
    exact List.mem_range.2 (hl y (List.mem_range.1 hy))
  simpa using h
theorem Coset.eq (h : Coset g rels sub t) (k : Coset g rels sub u) (hr : ∀ j, j < rels.length → LOk g (rels.getD j [])) (hs : ∀ j, j < sub.length → LOk g (sub.getD j [])) : t = u := by
  obtain ⟨φ, h1, e1⟩ := h.mapTo hr hs k.full k.rel (b := 0) k.full.good.n1 k.subc
  obtain ⟨ψ, h2, e2⟩ := k.mapTo hr hs h.full h.rel (b := 0) h.full.good.n1 h.subc
  have i1 := h1.inj h.full h2 (by rw [e1, e2])
  have i2 := h2.inj k.full h1 (by rw [e2, e1])
  exact std_eq h.full k.full h.std k.std h1 e1 i1 (Nat.le_antisymm (len_le_inj h1.lt i1) (len_le_inj h2.lt i2))
end
end Go.Proofs.Ct
namespace Go.Proofs
open Go.RowKit Go.Shelf Go.Proofs.Ct Go.Maps
def lookE (g : Int) (rels sub : List W) (limit : Int) : Tb × (Int × Int × Int) × Int :=
  if givenE g rels sub limit ≠ 0 then ([], (0, 0, 0), givenE g rels sub limit) else
  match lookS (2 * g.toNat) limit.toNat rels sub with
  | none => ([], (0, 0, 0), 12)
  | some y => ((stdE g (tabS y.s) 0).1, (((y.s.t.length + y.removed : Nat) : Int), y.s.most, (y.looks : Int)), 0)
theorem lookE_bad {g : Int} {rels sub : List W} {limit : Int} (h : givenE g rels sub limit ≠ 0) : lookE g rels sub limit = ([], (0, 0, 0), givenE g rels sub limit) := if_pos h
theorem lookE_full {g lim : Nat} {rels sub : List W} (h : givenE g rels sub lim = 0) (h3 : lookS (2 * g) lim rels sub = none) : lookE g rels sub lim = ([], (0, 0, 0), 12) := by
  unfold lookE; rw [if_neg (by rw [h]; simp), Int.toNat_natCast, Int.toNat_natCast, h3]
theorem lookE_some {g lim : Nat} {rels sub : List W} {y : LS} (h : givenE g rels sub lim = 0) (h3 : lookS (2 * g) lim rels sub = some y) : lookE g rels sub lim = ((stdE g (tabS y.s) 0).1, (((y.s.t.length + y.removed : Nat) : Int), y.s.most, (y.looks : Int)), 0) := by
  unfold lookE; rw [if_neg (by rw [h]; simp), Int.toNat_natCast, Int.toNat_natCast, h3]
section
variable {g lim : Nat} {rels sub : List W}
end
end Go.Proofs
