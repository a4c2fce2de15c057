/- The table that a state of an enumeration ends with, plainly, whichever strategy led there; Felsch's strategy leads to the coset table; The living alone, numbered anew: a state without its dead cosets, plainly; scans of all cosets; (*cosets).squeeze; What Felsch's strategy answers, plainly. -/
import Derived.Test.YtmpnengjboabcaaFlCS18
import Derived.Test.YtmpnengjboabcaaFlCS11
import Derived.Test.YtmpnengjboabcaaFlCS10
import Derived.Test.YtmpnengjboabcaaFlCS9
namespace Go.Proofs.Ct
section
variable {g lim : Nat} {rels sub : List W} {s : St} {f : FS}
theorem coset_of_state (hg1 : 1 ≤ g) (hg16 : g ≤ 16) (hlim : lim ≤ 20000) (hr : ∀ j, j < rels.length → LOk g (rels.getD j [])) (hs : ∀ j, j < sub.length → LOk g (sub.getD j [])) {s : St} (hG : Good g lim s) (hC : Comp g s s.t.length) (hRC : RC rels s s.t.length) (hSC : ∀ j, j < sub.length → Clo s 0 (sub.getD j []))
    (hU : ∀ {α : Type} {D : α → Prop} {act : α → Nat → α} {p0 : α}, Mdl g rels D act → D p0 → (∀ j, j < sub.length → actW act p0 (sub.getD j []) = p0) → ∃ f, Mp g D act s f ∧ f 0 = p0) :
    Coset g rels sub (stdT (tabS s) 0) ∧ stdE g (tabS s) 0 = (stdT (tabS s) 0, 0) ∧ (stdT (tabS s) 0).length = (liv s).length := by
  obtain ⟨a, b, c⟩ := tab_good hg1 hg16 hlim hG hC
  have hF : Full g (tabS s) := ⟨a, b, c⟩
  have hS := hF.std_of a.n1
  refine ⟨⟨hS.full, hS.std, fun i hi j hj => ?_, fun j hj => ?_, fun {α D act p0} hM h0 hp => ?_⟩, (tab_std hg1 hg16 hlim hG hC).2, by rw [length_stdT, length_tab]⟩
  · obtain ⟨φ, hφ, h0φ, -⟩ := hS.there
    obtain ⟨ψ, hψ, h0ψ, -⟩ := hS.back
    -- every number is met
    have hw := tab_closed hG.rest hr hRC (ψ i) (hψ.lt i hi) j hj
    have h2 := hφ.way a (hr j hj) (hψ.lt i hi) hw
    -- φ (ψ i) = i: both are maps of the standard table to itself that fix 0
    have key : ∀ x, Reach g (stdT (tabS s) 0) 0 x → x < (stdT (tabS s) 0).length ∧ φ (ψ x) = x := fun x hx => by
      induction hx with
      | refl =>
        exact ⟨hS.full.good.n1, by rw [h0ψ, h0φ]⟩
      | @step y z c _ hc he ih =>
        obtain ⟨i1, i2⟩ := ih
        refine ⟨hS.full.good.elt i1 hc he, ?_⟩
        have h3 := hφ.edge _ _ _ (hψ.lt y i1) hc (hψ.edge y c z i1 hc he)
        rw [i2] at h3
        unfold Edge at he h3
        omega
    rw [(key i (hS.full.conn i hi)).2] at h2
    exact h2
  · obtain ⟨φ, hφ, h0, -⟩ := hS.there
    have hw := tab_closed0 hG.rest hG.n1 (hs j hj) (hSC j hj)
    have h2 := hφ.way a (hs j hj) a.n1 hw
    rwa [h0] at h2
  · obtain ⟨f, hf, hf0⟩ := hU hM h0 hp
    obtain ⟨ψ, hψ, hψ0, -⟩ := hS.back
    have hlv : ∀ i, i < (tabS s).length → (liv s).getD i 0 < s.t.length := fun i hi => by
      rw [length_tab] at hi
      exact (livTo_at (s := s) s.t.length i hi).1
    refine ⟨fun x => f ((liv s).getD (ψ x) 0), ?_, fun x hx => hf.dom _ (hlv _ (hψ.lt x hx)), fun x c y hx hc he => ?_⟩
    · show f ((liv s).getD (ψ 0) 0) = p0
      rw [hψ0]
      have h1 := (num_lt (n := s.t.length) hG.n1 (rp_zero hG.rest hG.n1)).2
      have h2 : num s 0 = 0 := rfl
      rw [h2] at h1
      have h3 : (liv s).getD 0 0 = 0 := h1
      rw [h3]; exact hf0
    · have h1 := hψ.edge x c y hx hc he
      obtain ⟨x', y', h2, h3, h4, h5, h6⟩ := tab_from hG.rest hc (hψ.lt x hx) (fun x hx => hC x hx hx c hc) h1
      show act (f ((liv s).getD (ψ x) 0)) c = f ((liv s).getD (ψ y) 0)
      rw [h5, h6]
      exact hf.edge _ _ _ h2 hc h4
theorem lead_all (h : Rest g s) (hC : ∀ r, r < s.t.length → s.rp r = r → ∀ c, c < 2 * g → 0 ≤ s.t.at r c) {ws : W} (hw : LOk g ws) {r : Nat} (hr : r < s.t.length) (hlr : s.rp r = r) : ∀ k, k ≤ ws.length → 0 ≤ leadTo s.t r ws k
  | 0, _ => Int.natCast_nonneg r
  | k + 1, hk => by
    have ih := lead_all h hC hw hr hlr k (by omega)
    obtain ⟨h1, h2⟩ := lead_live h hw hr hlr k (by omega) ih
    rw [leadTo_succ, if_neg (by omega)]
    exact hC _ h1 h2 _ (hw.col (by omega))
theorem fwd_all (h : Rest g s) (hC : ∀ r, r < s.t.length → s.rp r = r → ∀ c, c < 2 * g → 0 ≤ s.t.at r c) {w : W} (hw : LOk g w) {r : Nat} (hr : r < s.t.length) (hlr : s.rp r = r) : fwd s.t r w = w.length :=
  fwd_eq (Nat.le_refl _) (.inl rfl) fun j hj => lead_all h hC hw hr hlr (j + 1) (by omega)
theorem coin_live (h : Rest g s) {a b : Nat} (ha : a < s.t.length) (hb : b < s.t.length) (hne : s.rp a ≠ s.rp b) : (coinS (2 * g) s a b).live < s.live := by
  obtain ⟨c1, c2, c3, -⟩ := coin_rest h ha hb
  have hn := c2.n
  have l1 := c1.lv
  have l2 := h.lv
  have hd := dc_less h c1 c2 ha hb hne c3
  omega
theorem scan_full (h : FRest g f) (hC : ∀ r, r < f.s.t.length → f.s.rp r = r → ∀ c, c < 2 * g → 0 ≤ f.s.t.at r c) {r : Nat} (hr : r < f.s.t.length) (hlr : f.s.rp r = r) {w : W} (hw : LOk g w) :
    ((scanF (2 * g) f r w).1 = f ∧ leadTo f.s.t r w w.length = (r : Int)) ∨ (scanF (2 * g) f r w).1.s.live < f.s.live := by
  have hf := fwd_all h.rest hC hw hr hlr
  unfold scanF
  rw [if_pos hf, hf]
  by_cases e : leadTo f.s.t r w w.length = (r : Int)
  · rw [if_pos e]
    exact .inl ⟨rfl, e⟩
  · rw [if_neg e]
    refine .inr ?_
    have hp := lead_all h.rest hC hw hr hlr w.length (Nat.le_refl _)
    obtain ⟨h1, h2⟩ := lead_live h.rest hw hr hlr w.length (Nat.le_refl _) hp
    show (coinF (2 * g) f _ r).s.live < _
    rw [coinF_s]
    exact coin_live h.rest h1 hr (by rw [h2, hlr]; omega)
theorem FExt.live {f' : FS} (h : FRest g f) (k : FExt g f f') : f'.s.live ≤ f.s.live := live_le h.rest k.rest.rest k.ext k.n
theorem scansTo_full (h : FRest g f) (hC : ∀ r, r < f.s.t.length → f.s.rp r = r → ∀ c, c < 2 * g → 0 ≤ f.s.t.at r c) {ws : List W} (hw : ∀ j, j < ws.length → LOk g (ws.getD j [])) {r : Nat} (hr : r < f.s.t.length) : ∀ n, n ≤ ws.length →
    (scansTo (2 * g) r ws n f = f ∧ (f.s.rp r = r → ∀ j, j < n → leadTo f.s.t r (ws.getD j []) (ws.getD j []).length = (r : Int))) ∨ (scansTo (2 * g) r ws n f).s.live < f.s.live
  | 0, _ => .inl ⟨rfl, fun _ j hj => absurd hj (Nat.not_lt_zero _)⟩
  | n + 1, hn => by
    obtain ⟨i1, i2, i3, i4, i5⟩ := scansTo_F hw h hr n (by omega)
    have i3' := i3
    have ih := scansTo_full h hC hw hr n (by omega)
    have e : scansTo (2 * g) r ws (n + 1) f = if (scansTo (2 * g) r ws n f).s.rp r = r then (scanF (2 * g) (scansTo (2 * g) r ws n f) r (ws.getD n [])).1 else scansTo (2 * g) r ws n f := rfl
    rw [e]
    rcases ih with ⟨ih1, ih2⟩ | ih
    · rw [ih1]
      by_cases hl : f.s.rp r = r
      · rw [if_pos hl]
        rcases scan_full h hC hr hl (hw n (by omega)) with ⟨h1, h2⟩ | h1
        · refine .inl ⟨h1, fun hl j hj => ?_⟩
          rcases Nat.lt_or_ge j n with h3 | h3
          · exact ih2 hl j h3
          · obtain rfl : j = n := by omega
            exact h2
        · exact .inr h1
      · rw [if_neg hl]
        exact .inl ⟨rfl, fun h => absurd h hl⟩
    · refine .inr ?_
      split
      · rename_i hl
        obtain ⟨j1, j2, j3, j4, j5⟩ := (scan_F i1 (by rw [i3]; exact hr) hl (hw n (by omega))).1
        have := live_le i1.rest j1.rest j2 j3
        omega
      · exact ih
theorem chkTo_full (hr : ∀ j, j < rels.length → LOk g (rels.getD j [])) (h : FRest g f) (hC : ∀ r, r < f.s.t.length → f.s.rp r = r → ∀ c, c < 2 * g → 0 ≤ f.s.t.at r c) : ∀ n, n ≤ f.s.t.length →
    (chkTo (2 * g) rels n f = f ∧ ∀ r, r < n → f.s.rp r = r → ∀ j, j < rels.length → leadTo f.s.t r (rels.getD j []) (rels.getD j []).length = (r : Int)) ∨ (chkTo (2 * g) rels n f).s.live < f.s.live
  | 0, _ => .inl ⟨rfl, fun r hr => absurd hr (Nat.not_lt_zero _)⟩
  | n + 1, hn => by
    have i1 := chkTo_F hr h n (by omega)
    have ih := chkTo_full hr h hC n (by omega)
    have e : chkTo (2 * g) rels (n + 1) f = scansF (2 * g) (chkTo (2 * g) rels n f) n rels := rfl
    rw [e]
    rcases ih with ⟨ih1, ih2⟩ | ih
    · rw [ih1]
      rcases scansTo_full h hC hr (r := n) (by omega) rels.length (Nat.le_refl _) with ⟨h1, h2⟩ | h1
      · refine .inl ⟨h1, fun r hr hl j hj => ?_⟩
        rcases Nat.lt_or_ge r n with h3 | h3
        · exact ih2 r h3 hl j hj
        · obtain rfl : r = n := by omega
          exact h2 hl j hj
      · exact .inr h1
    · have := (scans_F hr i1.rest (r := n) (by rw [i1.n]; omega)).live i1.rest
      exact .inr (by omega)
theorem chk_full (hr : ∀ j, j < rels.length → LOk g (rels.getD j [])) (hs : ∀ j, j < sub.length → LOk g (sub.getD j [])) (h : FGood g lim f) (ho : openS (2 * g) f.s = none) (e : (chkF (2 * g) rels sub f).s.live = f.s.live) :
    chkF (2 * g) rels sub f = f ∧ Comp g f.s f.s.t.length ∧ RC rels f.s f.s.t.length ∧ ∀ j, j < sub.length → Clo f.s 0 (sub.getD j []) := by
  have hC := openS_none ho
  have h1 := h.good.n1
  have h0 := rp_zero h.good.rest h1
  have i1 := chkTo_F hr h.rest f.s.t.length (Nat.le_refl _)
  have hlv := (scans_F hs i1.rest (r := 0) (by rw [i1.n]; omega)).live i1.rest
  have e' : chkF (2 * g) rels sub f = scansF (2 * g) (chkTo (2 * g) rels f.s.t.length f) 0 sub := rfl
  rw [e'] at e ⊢
  rcases chkTo_full hr h.rest hC f.s.t.length (Nat.le_refl _) with ⟨a1, a2⟩ | a1
  · rw [a1] at e ⊢
    rcases scansTo_full h.rest hC hs (r := 0) h1 sub.length (Nat.le_refl _) with ⟨b1, b2⟩ | b1
    · refine ⟨b1, fun x hx _ c hc => hC _ (h.good.rest.inv.rlt hx) (h.good.rest.inv.rid x hx) c hc, fun x hx _ j hj => ?_, fun j hj => ?_⟩
      · unfold Clo
        have := a2 _ (h.good.rest.inv.rlt hx) (h.good.rest.inv.rid x hx) j hj
        exact leads_iff.1 this
      · unfold Clo
        rw [h0]
        exact leads_iff.1 (b2 h0 j hj)
    · have : (scansF (2 * g) f 0 sub).s.live < f.s.live := b1
      omega
  · omega
end
section
variable {g lim : Nat} {rels sub : List W} {f : FS} {α : Type} {D : α → Prop} {act : α → Nat → α} {φ : Nat → α}
def CloD (D : α → Prop) (act : α → Nat → α) (w : W) : Prop := ∀ p, D p → actW act p w = p
theorem clo_rot (hM : Mdl g rels D act) {w : W} (hw : LOk g w) (h : CloD D act w) (k : Nat) : CloD D act (rot w k) := fun p hp => by
  show actW act p (w.drop k ++ w.take k) = p
  have hd : LOk g (w.drop k) := fun x hx => hw x (List.mem_of_mem_drop hx)
  have ht : LOk g (w.take k) := fun x hx => hw x (List.mem_of_mem_take hx)
  -- p is led there by the first part
  have h1 := hM.invW ht.inv hp
  rw [inv_inv] at h1
  have hq := hM.clW ht.inv hp
  have h2 := h _ hq
  have e : w = w.take k ++ w.drop k := (List.take_append_drop k w).symm
  generalize w.take k = a at *
  generalize w.drop k = b at *
  subst e
  rw [actW_app, h1] at h2
  rw [actW_app, h2]
  exact h1
theorem clo_inv (hM : Mdl g rels D act) {w : W} (hw : LOk g w) (h : CloD D act w) : CloD D act (inv w) := fun p hp => by
  have := hM.invW hw hp
  rwa [h p hp] at this
theorem wsF_clo (hM : Mdl g rels D act) (hr : ∀ j, j < rels.length → LOk g (rels.getD j [])) (c j : Nat) (hj : j < (wsF rels c).length) : CloD D act ((wsF rels c).getD j []) := by
  obtain ⟨m, k, h1, h2, ⟨-, e⟩ | ⟨-, e⟩⟩ := wordsTo2_mem.1 (mem_getD0 hj)
  · have e' : (wsF rels c).getD j [] = rot (rels.getD m []) k := e
    rw [e']
    exact clo_rot hM (hr m h1) (fun p hp => hM.rel p m hp h1) k
  · have e' : (wsF rels c).getD j [] = rot (inv (rels.getD m [])) k := e
    rw [e']
    exact clo_rot hM (hr m h1).inv (clo_inv hM (hr m h1) fun p hp => hM.rel p m hp h1) k
theorem scanF_mp (hM : Mdl g rels D act) (hm : Mp g D act f.s φ) (h : FRest g f) {r : Nat} (hr : r < f.s.t.length) (hlr : f.s.rp r = r) {w : W} (hw : LOk g w) (hcl : actW act (φ r) w = φ r) : Mp g D act (scanF (2 * g) f r w).1.s φ := by
  have es := scanF_s (2 * g) f r w
  cases ho : (scanF (2 * g) f r w).2 with
  | none => rw [ho] at es; exact scan_mp hM hm h.rest hr hlr hw hcl _ es
  | some uc =>
    obtain ⟨u, c⟩ := uc
    rw [((scan_F h hr hlr hw).2 u c ho).1]
    exact hm
theorem scansTo_mp (hM : Mdl g rels D act) (hm : Mp g D act f.s φ) (h : FRest g f) {ws : List W} (hw : ∀ j, j < ws.length → LOk g (ws.getD j [])) {r : Nat} (hr : r < f.s.t.length) (hcl : ∀ j, j < ws.length → actW act (φ r) (ws.getD j []) = φ r) : ∀ n, n ≤ ws.length → Mp g D act (scansTo (2 * g) r ws n f).s φ
  | 0, _ => hm
  | n + 1, hn => by
    obtain ⟨i1, i2, i3, i4, i5⟩ := scansTo_F hw h hr n (by omega)
    have ih := scansTo_mp hM hm h hw hr hcl n (by omega)
    have e : scansTo (2 * g) r ws (n + 1) f = if (scansTo (2 * g) r ws n f).s.rp r = r then (scanF (2 * g) (scansTo (2 * g) r ws n f) r (ws.getD n [])).1 else scansTo (2 * g) r ws n f := rfl
    rw [e]
    split
    · rename_i hl
      exact scanF_mp hM ih i1 (by rw [i3]; exact hr) hl (hw n (by omega)) (hcl n (by omega))
    · exact ih
theorem scansF_mp (hM : Mdl g rels D act) (hm : Mp g D act f.s φ) (h : FRest g f) {ws : List W} (hw : ∀ j, j < ws.length → LOk g (ws.getD j [])) {r : Nat} (hr : r < f.s.t.length) (hcl : ∀ j, j < ws.length → actW act (φ r) (ws.getD j []) = φ r) : Mp g D act (scansF (2 * g) f r ws).s φ := scansTo_mp hM hm h hw hr hcl _ (Nat.le_refl _)
theorem dedS_mp (hM : Mdl g rels D act) (hm : Mp g D act f.s φ) (h : FRest g f) {ws : Nat → List W} (hw : ∀ c, c < 2 * g → ∀ j, j < (ws c).length → LOk g ((ws c).getD j [])) (hcl : ∀ c j, j < (ws c).length → CloD D act ((ws c).getD j [])) {r c : Nat} (hr : r < f.s.t.length) (hc : c < 2 * g) : Mp g D act (dedS (2 * g) ws f r c).s φ := by
  have h1 := scans_F (hw c hc) h hr
  have m1 := scansF_mp hM hm h (hw c hc) hr fun j hj => hcl c j hj _ (hm.dom r hr)
  unfold dedS
  generalize scansF (2 * g) f r (ws c) = f1 at *
  split
  · rename_i hh
    have hb := h1.rest.rest.inv.bd r (by rw [h1.n]; exact hr) c hc
    exact scansF_mp hM m1 h1.rest (hw _ (flp_lt2 hc)) (by omega) fun j hj => hcl _ j hj _ (m1.dom _ (by omega))
  · exact m1
theorem dedN_mp (hM : Mdl g rels D act) {ws : Nat → List W} (hw : ∀ c, c < 2 * g → ∀ j, j < (ws c).length → LOk g ((ws c).getD j [])) (hcl : ∀ c j, j < (ws c).length → CloD D act ((ws c).getD j [])) : ∀ (n : Nat) {f : FS}, FRest g f → Mp g D act f.s φ → Mp g D act (dedN (2 * g) ws n f).s φ
  | 0, _, _, hm => hm
  | n + 1, f, h, hm => by
    rw [dedN]
    split
    · exact hm
    · rename_i hk
      obtain ⟨h1, h2⟩ := h.kok _ (top_mem hk)
      exact dedN_mp hM hw hcl n (dedStep_F hw h hk).rest (dedS_mp (f := f.pop) hM hm (pop_F h) hw hcl h1 h2)
theorem defF_mp (hM : Mdl g rels D act) (hm : Mp g D act f.s φ) (h : FRest g f) {r c : Nat} (hr : r < f.s.t.length) (hc : c < 2 * g) : Mp g D act (defF (2 * g) f r c).s (fun x => if x = f.s.t.length then act (φ r) c else φ x) := hm.defn hM h.rest.inv hr hc
theorem fillFF_mp (hM : Mdl g rels D act) : ∀ (fuel : Nat) {f : FS} {φ : Nat → α}, Mp g D act f.s φ → FGood g lim f → ∀ {r : Nat}, r < f.s.t.length → f.s.rp r = r → ∀ {w : W}, LOk g w → actW act (φ r) w = φ r → ∀ f', fillFF (2 * g) lim fuel f r w = some f' → ∃ φ', Mp g D act f'.s φ' ∧ ∀ x, x < f.s.t.length → φ' x = φ x
  | 0, _, _, _, _, _, _, _, _, _, _, f', e => by cases e
  | fuel + 1, f, φ, hm, h, r, hr, hl, w, hw, hcl, f', e => by
    have hsm := scanF_mp hM hm h.rest hr hl hw hcl
    obtain ⟨-, b⟩ := scan_F h.rest hr hl hw
    unfold fillFF at e
    cases ho : (scanF (2 * g) f r w).2 with
    | none =>
      rw [ho] at e
      cases e
      exact ⟨φ, hsm, fun _ _ => rfl⟩
    | some uc =>
      obtain ⟨u, c⟩ := uc
      rw [ho] at e
      simp only at e
      obtain ⟨-, h2, h3, h4, h5⟩ := b _ _ ho
      split at e
      · cases e
      · obtain ⟨k1, k2⟩ := h.defn h2 h3 h4 h5 (by omega)
        have hn : (defF (2 * g) f u c).s.t.length = f.s.t.length + 1 := length_def _ _ _
        have hd := defF_mp hM hm h.rest h2 h3
        obtain ⟨φ', m1, m2⟩ := fillFF_mp hM fuel hd k1 (r := r) (by omega) (by
          show (defS (2 * g) f.s u c).rp r = r
          rw [rp_def_old h.good.rest.inv _ _ _ hr]; exact hl) hw (by rw [if_neg (by omega)]; exact hcl) f' e
        refine ⟨φ', m1, fun x hx => ?_⟩
        rw [m2 x (by omega), if_neg (by omega)]
theorem compN_mp (hM : Mdl g rels D act) {ws : Nat → List W} (hw : ∀ c, c < 2 * g → ∀ j, j < (ws c).length → LOk g ((ws c).getD j [])) (hcl : ∀ c j, j < (ws c).length → CloD D act ((ws c).getD j [])) : ∀ (n : Nat) {f : FS} {φ : Nat → α}, FGood g lim f → Mp g D act f.s φ → ∀ f', compN (2 * g) lim ws n f = some f' → ∃ φ', Mp g D act f'.s φ' ∧ φ' 0 = φ 0
  | 0, _, _, _, _, f', e => by cases e
  | n + 1, f, φ, h, hm, f', e => by
    rw [compN] at e
    cases ho : openS (2 * g) f.s with
    | none =>
      rw [ho] at e
      cases e
      exact ⟨φ, hm, rfl⟩
    | some rc =>
      obtain ⟨r, c⟩ := rc
      rw [ho] at e
      simp only at e
      split at e
      · cases e
      · obtain ⟨h1, h2, h3, h4⟩ := openS_some ho
        obtain ⟨k1, -⟩ := h.defn h1 h3 h2 h4 (by omega)
        obtain ⟨d1, d2, d3, d4⟩ := def_ded hw h ho (by omega)
        have hm1 := dedN_mp hM hw hcl (pot (2 * g) (defF (2 * g) f r c)) k1.rest (defF_mp hM hm h.rest h1 h3)
        obtain ⟨φ', m1, m2⟩ := compN_mp hM hw hcl n d1 hm1 f' e
        refine ⟨φ', m1, m2.trans ?_⟩
        have := h.good.n1
        exact if_neg (by omega)
theorem chkTo_mp (hM : Mdl g rels D act) (hr : ∀ j, j < rels.length → LOk g (rels.getD j [])) (h : FRest g f) (hm : Mp g D act f.s φ) : ∀ n, n ≤ f.s.t.length → Mp g D act (chkTo (2 * g) rels n f).s φ
  | 0, _ => hm
  | n + 1, hn => by
    have ih := chkTo_mp hM hr h hm n (by omega)
    have i1 := chkTo_F hr h n (by omega)
    exact scansF_mp hM ih i1.rest hr (by rw [i1.n]; omega) fun j hj => hM.rel _ j (hm.dom n (by omega)) hj
theorem rndN_mp (hM : Mdl g rels D act) (hr : ∀ j, j < rels.length → LOk g (rels.getD j [])) (hs : ∀ j, j < sub.length → LOk g (sub.getD j [])) : ∀ (n : Nat) {f : FS} {φ : Nat → α}, FGood g lim f → Mp g D act f.s φ → (∀ j, j < sub.length → actW act (φ 0) (sub.getD j []) = φ 0) → ∀ f', rndN (2 * g) lim rels sub n f = some (some f') →
    (∃ φ', Mp g D act f'.s φ' ∧ φ' 0 = φ 0)
  | 0, _, _, _, _, _, f', e => by cases e
  | n + 1, f, φ, h, hm, hp, f', e => by
    rw [rndN] at e
    have d1 := ded_F (fun c _ => wsF_ok hr c) h.rest
    have hm1 := dedN_mp hM (fun c _ => wsF_ok hr c) (fun c j => wsF_clo hM hr c j) (pot (2 * g) f) h.rest hm
    cases ec : compF (2 * g) lim (wsF rels) (ded (2 * g) (wsF rels) f) with
    | none => rw [ec] at e; cases e
    | some f2 =>
      rw [ec] at e
      simp only at e
      obtain ⟨r1, -, -, r4, -⟩ := round_less hr hs h ec
      obtain ⟨φ2, m1, m2⟩ := compN_mp hM (fun c _ => wsF_ok hr c) (fun c j => wsF_clo hM hr c j) _ (h.ext d1.1) hm1 f2 ec
      have m3 := chkTo_mp hM hr r1.rest m1 _ (Nat.le_refl _)
      have i1 := chkTo_F hr r1.rest f2.s.t.length (Nat.le_refl _)
      have m4 := scansF_mp hM m3 i1.rest hs (r := 0) (by rw [i1.n]; exact r1.good.n1) fun j hj => by rw [m2]; exact hp j hj
      split at e
      · cases e
        exact ⟨φ2, m4, m2⟩
      · obtain ⟨φ', m5, m6⟩ := rndN_mp hM hr hs n (r1.ext r4) m4 (fun j hj => by rw [m2]; exact hp j hj) f' e
        exact ⟨φ', m5, m6.trans m2⟩
theorem start_mp {p0 : α} (h0 : D p0) : Mp g D act (startF (2 * g)).s (fun _ => p0) := by
  have hst : (startS (2 * g)).t.length = 1 := by unfold startS; rw [length_add]; rfl
  refine ⟨fun _ _ => h0, fun _ _ => rfl, fun x c y hx hc hy => ?_⟩
  have hx0 : x = nilS.t.length := by
    have hx' : x < (startS (2 * g)).t.length := hx
    rw [hst] at hx'; show x = 0; omega
  have hy' : Edge (startS (2 * g)).t x c y := hy
  unfold Edge startS at hy'
  rw [hx0, at_add_new _ _ hc] at hy'
  omega
theorem subF_mp (hM : Mdl g rels D act) (hr : ∀ j, j < rels.length → LOk g (rels.getD j [])) (hs : ∀ j, j < sub.length → LOk g (sub.getD j [])) (hl : 1 ≤ lim) {p0 : α} (h0 : D p0) (hp : ∀ j, j < sub.length → actW act p0 (sub.getD j []) = p0) {f' : FS} (e : optTo (subF (2 * g) lim rels sub) sub.length (startF (2 * g)) = some f') : ∃ φ, Mp g D act f'.s φ ∧ φ 0 = p0 := by
  have key := optTo_inv (p := fun _ f => FGood g lim f ∧ ∃ φ : Nat → α, Mp g D act f.s φ ∧ φ 0 = p0) (f := subF (2 * g) lim rels sub) (s := startF (2 * g)) ⟨startF_good hl, fun _ => p0, start_mp h0, rfl⟩ sub.length (fun i f f1 hi ⟨h, φ, hm, hφ⟩ e => ?_) f' e
  · exact key.2
  · unfold subF at e
    obtain ⟨f2, h2, rfl⟩ := Option.map_eq_some_iff.1 e
    have hz := rp_zero h.good.rest h.good.n1
    have h3 := (fillFF_good _ h h.good.n1 hz (hs i (by omega)) f2 h2).1
    obtain ⟨φ2, m1, m2⟩ := fillFF_mp hM _ hm h h.good.n1 hz (hs i (by omega)) (by rw [hφ]; exact hp i (by omega)) f2 h2
    refine ⟨h3.ext (ded_F (fun c _ => wsF_ok hr c) h3.rest).1, φ2, dedN_mp hM (fun c _ => wsF_ok hr c) (fun c j => wsF_clo hM hr c j) _ h3.rest m1, ?_⟩
    rw [m2 0 h.good.n1, hφ]
theorem coset_of_felsch (hg1 : 1 ≤ g) (hg16 : g ≤ 16) (hlim : lim ≤ 20000) (hl1 : 1 ≤ lim) (hr : ∀ j, j < rels.length → LOk g (rels.getD j [])) (hs : ∀ j, j < sub.length → LOk g (sub.getD j [])) {f : FS} (e : felschS (2 * g) lim rels sub = some f) :
    FGood g lim f ∧ Coset g rels sub (stdT (tabS f.s) 0) ∧ stdE g (tabS f.s) 0 = (stdT (tabS f.s) 0, 0) ∧ (stdT (tabS f.s) 0).length = (liv f.s).length ∧ Comp g f.s f.s.t.length := by
  unfold felschS at e
  obtain ⟨f0, e0, e1⟩ := Option.bind_eq_some_iff.1 e
  have hG0 := subF_good hr hs hl1 (Nat.le_refl _) e0
  unfold rndF at e1
  obtain ⟨o, ho⟩ := rndN_ends hr hs _ hG0 (Nat.le_refl _)
  rw [ho] at e1
  have e1' : o = some f := e1
  subst e1'
  -- the last round
  have hend : ∀ (n : Nat) {f1 : FS}, FGood g lim f1 → rndN (2 * g) lim rels sub n f1 = some (some f) → FGood g lim f ∧ Comp g f.s f.s.t.length ∧ RC rels f.s f.s.t.length ∧ ∀ j, j < sub.length → Clo f.s 0 (sub.getD j []) := by
    intro n
    induction n with
    | zero => intro f1 _ h; cases h
    | succ n ih =>
      intro f1 h1 h
      rw [rndN] at h
      cases ec : compF (2 * g) lim (wsF rels) (ded (2 * g) (wsF rels) f1) with
      | none => rw [ec] at h; cases h
      | some f2 =>
        rw [ec] at h
        simp only at h
        obtain ⟨r1, -, r3, r4, -⟩ := round_less hr hs h1 ec
        split at h
        · rename_i hl
          cases h
          obtain ⟨c1, c2⟩ := chk_full hr hs r1 r3 hl
          rw [c1]
          exact ⟨r1, c2⟩
        · exact ih (r1.ext r4) h
  obtain ⟨g1, g2, g3, g4⟩ := hend _ hG0 ho
  have hcs := coset_of_state hg1 hg16 hlim hr hs g1.good g2 g3 g4 fun {α D act p0} hM h0 hp => ?_
  · exact ⟨g1, hcs.1, hcs.2.1, hcs.2.2, g2⟩
  obtain ⟨φ, m1, m2⟩ := subF_mp hM hr hs hl1 h0 hp e0
  obtain ⟨φ', m3, m4⟩ := rndN_mp hM hr hs _ hG0 m1 (fun j hj => by rw [m2]; exact hp j hj) f ho
  exact ⟨φ', m3, m4.trans m2⟩
end
end Go.Proofs.Ct
namespace Go.Proofs.Ct
def scnTo (m : Nat) (r : Nat) (ws : List W) (n : Nat) (s : St) : St := foldTo (fun i s => if s.rp r = r then (scanS m s r (ws.getD i [])).1 else s) n s
theorem scansTo_s (m r : Nat) (ws : List W) (n : Nat) (f : FS) : (scansTo m r ws n f).s = scnTo m r ws n f.s := foldTo_map (p := FS.s) (fun i x => by
  by_cases h : x.s.rp r = r
  · rw [if_pos h, if_pos h, scanF_s]
  · rw [if_neg h, if_neg h]) n f
def lkTo (m : Nat) (rels : List W) (n : Nat) (s : St) : St := foldTo (fun r s => scnTo m r rels rels.length s) n s
theorem chkTo_s (m : Nat) (rels : List W) (n : Nat) (f : FS) : (chkTo m rels n f).s = lkTo m rels n f.s := foldTo_map (p := FS.s) (fun r x => scansTo_s m r rels rels.length x) n f
def sqRow (s : St) (x : Nat) : List Int := (s.t.row x).map fun v => if 0 ≤ v then (num s v.toNat : Int) else v
def sqS (s : St) : St := ⟨(liv s).map (sqRow s), List.range (liv s).length, s.q, s.live, s.most⟩
section
variable {g lim : Nat} {rels sub : List W} {s : St}
theorem length_sq : (sqS s).t.length = (liv s).length := by simp [sqS]
theorem row_sq {i : Nat} (h : i < (liv s).length) : (sqS s).t.row i = sqRow s ((liv s).getD i 0) := by
  unfold sqS Tb.row
  simp [List.getD_eq_getElem?_getD, h]
theorem len_sqRow (x : Nat) : (sqRow s x).length = (s.t.row x).length := by simp [sqRow]
theorem at_sq {i c : Nat} (h : i < (liv s).length) (hc : c < (s.t.row ((liv s).getD i 0)).length) : (sqS s).t.at i c = if 0 ≤ s.t.at ((liv s).getD i 0) c then (num s (s.t.at ((liv s).getD i 0) c).toNat : Int) else s.t.at ((liv s).getD i 0) c := by
  unfold Tb.at
  rw [row_sq h]
  unfold sqRow
  generalize s.t.row ((liv s).getD i 0) = row at *
  simp [List.getD_eq_getElem?_getD, hc]
theorem rp_sq {i : Nat} (h : i < (liv s).length) : (sqS s).rp i = i := by
  unfold sqS St.rp
  simp [List.getD_eq_getElem?_getD, h]
theorem liv_at {i : Nat} (h : i < (liv s).length) : (liv s).getD i 0 < s.t.length ∧ s.rp ((liv s).getD i 0) = (liv s).getD i 0 ∧ num s ((liv s).getD i 0) = i := livTo_at s.t.length i h
theorem num_liv {x : Nat} (hx : x < s.t.length) (hl : s.rp x = x) : num s x < (liv s).length ∧ (liv s).getD (num s x) 0 = x := num_lt hx hl
theorem sq_edge (h : Rest g s) {x y c : Nat} (hx : x < s.t.length) (hc : c < 2 * g) (he : Edge s.t x c y) : num s x < (liv s).length ∧ num s y < (liv s).length ∧ Edge (sqS s).t (num s x) c (num s y) := by
  obtain ⟨h1, h2, h3⟩ := h.live hx hc he
  obtain ⟨k1, k2⟩ := num_liv hx h1
  refine ⟨k1, (num_liv h3 h2).1, ?_⟩
  unfold Edge
  rw [at_sq k1 (by rw [k2, h.inv.len x hx]; exact hc), k2, show s.t.at x c = (y : Int) from he, if_pos (Int.natCast_nonneg _), Int.toNat_natCast]
theorem sq_from (h : Rest g s) {i c k : Nat} (hi : i < (liv s).length) (hc : c < 2 * g) (he : Edge (sqS s).t i c k) : k < (liv s).length ∧ Edge s.t ((liv s).getD i 0) c ((liv s).getD k 0) := by
  obtain ⟨h1, h2, h3⟩ := liv_at hi
  unfold Edge at he
  rw [at_sq hi (by rw [h.inv.len _ h1]; exact hc)] at he
  split at he
  · rename_i h0
    obtain ⟨y, hy⟩ := Int.eq_ofNat_of_zero_le h0
    have hE : Edge s.t ((liv s).getD i 0) c y := hy
    obtain ⟨-, h5, h6⟩ := h.live h1 hc hE
    rw [hy, Int.toNat_natCast] at he
    have hk : num s y = k := by omega
    obtain ⟨k1, k2⟩ := num_liv h6 h5
    rw [hk] at k1 k2
    exact ⟨k1, by rw [k2]; exact hE⟩
  · omega
theorem dc_zero {s : St} (h : ∀ x, x < s.t.length → s.rp x = x) : dc s = 0 := by
  unfold dc
  rw [List.countP_eq_zero]
  intro x hx
  have := h x (List.mem_range.1 hx)
  simpa using this
theorem Inv.sq (h : Rest g s) : Inv g (sqS s) := by
  refine ⟨fun r hr => ?_, fun r hr c hc => ?_, by simp [sqS], fun x hx => ?_, fun x hx => ?_, fun r hr c hc h0 => ?_⟩
  · rw [length_sq] at hr
    rw [row_sq hr, len_sqRow, h.inv.len _ (liv_at hr).1]
  · rw [length_sq] at hr ⊢
    obtain ⟨h1, -, -⟩ := liv_at hr
    have hb := h.inv.bd _ h1 c hc
    rw [at_sq hr (by rw [h.inv.len _ h1]; exact hc)]
    split
    · rename_i h0
      obtain ⟨y, hy⟩ := Int.eq_ofNat_of_zero_le h0
      obtain ⟨-, h5, h6⟩ := h.live h1 hc (show Edge s.t _ c y from hy)
      have := (num_liv h6 h5).1
      rw [hy, Int.toNat_natCast]
      omega
    · omega
  · rw [length_sq] at hx
    rw [rp_sq hx]; exact Nat.le_refl _
  · rw [length_sq] at hx
    rw [rp_sq hx, rp_sq hx]
  · rw [length_sq] at hr
    obtain ⟨k, hk⟩ := Int.eq_ofNat_of_zero_le h0
    obtain ⟨h1, h2⟩ := sq_from h hr hc (show Edge (sqS s).t r c k from hk)
    have h3 := h2.back h.inv (liv_at hr).1 hc
    have h4 := (sq_edge h (liv_at h1).1 (flp_lt2 hc) h3).2.2
    rw [(liv_at h1).2.2, (liv_at hr).2.2] at h4
    rw [hk, Int.toNat_natCast]
    exact h4
theorem Rest.sq (h : Rest g s) : Rest g (sqS s) := by
  have hd : dc (sqS s) = 0 := dc_zero fun x hx => rp_sq (by rwa [length_sq] at hx)
  refine ⟨Inv.sq h, fun x hx hne => ?_, ?_⟩
  · rw [length_sq] at hx
    exact absurd (rp_sq hx) hne
  · rw [hd, length_sq, liv_live h]
    show s.live + _ = s.live
    omega
theorem num_zero : num s 0 = 0 := rfl
theorem Good.sq (h : Good g lim s) : Good g lim (sqS s) := by
  have h0 := rp_zero h.rest h.n1
  have h00 := num_liv h.n1 h0
  rw [num_zero] at h00
  have hle := livTo_le s s.t.length
  have hle : (liv s).length ≤ s.t.length := hle
  refine ⟨h.rest.sq, by rw [length_sq]; omega, by rw [length_sq]; have := h.n2; omega, fun i hi => ?_, h.m0, h.m1⟩
  rw [length_sq] at hi
  rw [rp_sq hi]
  obtain ⟨h1, h2, h3⟩ := liv_at hi
  have hR := h.conn _ h1
  rw [h2] at hR
  have key : ∀ y, Reach g s.t 0 y → y < s.t.length ∧ Reach g (sqS s).t 0 (num s y) := fun y hy => by
    induction hy with
    | refl => exact ⟨h.n1, .refl _⟩
    | @step y z c _ hc he ih =>
      exact ⟨he.lt h.rest.inv ih.1 hc, .step ih.2 hc (sq_edge h.rest ih.1 hc he).2.2⟩
  have := (key _ hR).2
  rwa [h3] at this
theorem num_le {x y : Nat} (h : x ≤ y) : num s x ≤ num s y := (livTo_pre s h).length_le
theorem liv_lt {i x : Nat} (hi : i < (liv s).length) (h : i < num s x) : (liv s).getD i 0 < x := by
  rcases Nat.lt_or_ge ((liv s).getD i 0) x with h1 | h1
  · exact h1
  · have := num_le (s := s) h1
    rw [(liv_at hi).2.2] at this
    omega
theorem Comp.sq (h : Rest g s) {k : Nat} (hc : Comp g s k) : Comp g (sqS s) (num s k) := fun i hi hin c hcc => by
  rw [length_sq] at hin
  obtain ⟨h1, h2, h3⟩ := liv_at hin
  have h4 := hc _ (liv_lt hin hi) h1 c hcc
  rw [h2] at h4
  rw [rp_sq hin, at_sq hin (by rw [h.inv.len _ h1]; exact hcc), if_pos h4]
  exact Int.natCast_nonneg _
theorem sq_way (h : Rest g s) : ∀ {w : W} {x y : Nat}, LOk g w → x < s.t.length → Way s.t x w y → Way (sqS s).t (num s x) w (num s y) := by
  intro w
  induction w with
  | nil => intro x y _ _ e; have e : x = y := e; rw [e]; exact rfl
  | cons l w ih =>
    rintro x y hw hx ⟨z, h1, h2⟩
    have hz := h1.lt h.inv hx (col_ltL hw.cons.1)
    exact ⟨_, (sq_edge h hx (col_ltL hw.cons.1) h1).2.2, ih hw.cons.2 hz h2⟩
theorem clo_sq (h : Rest g s) {i : Nat} (hi : i < (liv s).length) {w : W} (hw : LOk g w) (hc : Clo s ((liv s).getD i 0) w) : Clo (sqS s) i w := by
  obtain ⟨h1, h2, h3⟩ := liv_at hi
  unfold Clo at hc ⊢
  rw [h2] at hc
  have := sq_way h hw h1 hc
  rw [h3] at this
  rw [rp_sq hi]
  exact this
theorem RC.sq (h : Rest g s) (hr : ∀ j, j < rels.length → LOk g (rels.getD j [])) {k : Nat} (hc : RC rels s k) : RC rels (sqS s) (num s k) := fun i hi hin j hj => by
  rw [length_sq] at hin
  exact clo_sq h hin (hr j hj) (hc _ (liv_lt hin hi) (liv_at hin).1 j hj)
theorem clo_sq0 (h : Good g lim s) {w : W} (hw : LOk g w) (hc : Clo s 0 w) : Clo (sqS s) 0 w := by
  have h00 := num_liv h.n1 (rp_zero h.rest h.n1)
  rw [num_zero] at h00
  exact clo_sq h.rest h00.1 hw (by rw [h00.2]; exact hc)
theorem Mp.sq {α : Type} {D : α → Prop} {act : α → Nat → α} {f : Nat → α} (h : Rest g s) (hm : Mp g D act s f) : Mp g D act (sqS s) (fun i => f ((liv s).getD i 0)) := by
  refine ⟨fun x hx => ?_, fun x hx => ?_, fun x c y hx hc he => ?_⟩
  · rw [length_sq] at hx
    exact hm.dom _ (liv_at hx).1
  · rw [length_sq] at hx
    rw [rp_sq hx]
  · rw [length_sq] at hx
    obtain ⟨h1, h2⟩ := sq_from h hx hc he
    exact hm.edge _ _ _ (liv_at hx).1 hc h2
theorem liv_zero (h : Good g lim s) : (liv s).getD 0 0 = 0 := by
  have h00 := num_liv h.n1 (rp_zero h.rest h.n1)
  rw [num_zero] at h00
  exact h00.2
theorem lkTo_F (hr : ∀ j, j < rels.length → LOk g (rels.getD j [])) (h : Rest g s) {n : Nat} (hn : n ≤ s.t.length) : Rest g (lkTo (2 * g) rels n s) ∧ Ext g s (lkTo (2 * g) rels n s) ∧ (lkTo (2 * g) rels n s).t.length = s.t.length ∧ (lkTo (2 * g) rels n s).most = s.most := by
  have h1 := chkTo_F (f := ⟨s, []⟩) hr ⟨h, fun p hp => by cases hp⟩ n hn
  have e := chkTo_s (2 * g) rels n ⟨s, []⟩
  rw [← e]
  exact ⟨h1.rest.rest, h1.ext, h1.n, h1.most⟩
theorem scnTo_F (hr : ∀ j, j < rels.length → LOk g (rels.getD j [])) (h : Rest g s) {r : Nat} (hrn : r < s.t.length) {n : Nat} (hn : n ≤ rels.length) : Rest g (scnTo (2 * g) r rels n s) ∧ Ext g s (scnTo (2 * g) r rels n s) ∧ (scnTo (2 * g) r rels n s).t.length = s.t.length ∧ (scnTo (2 * g) r rels n s).most = s.most := by
  obtain ⟨a, b, c, d, -⟩ := scansTo_F (f := ⟨s, []⟩) hr ⟨h, fun p hp => by cases hp⟩ hrn n hn
  have e := scansTo_s (2 * g) r rels n ⟨s, []⟩
  rw [← e]
  exact ⟨a.rest, b, c, d⟩
theorem lkTo_mp {α : Type} {D : α → Prop} {act : α → Nat → α} {f : Nat → α} (hM : Mdl g rels D act) (hr : ∀ j, j < rels.length → LOk g (rels.getD j [])) (h : Rest g s) (hm : Mp g D act s f) {n : Nat} (hn : n ≤ s.t.length) : Mp g D act (lkTo (2 * g) rels n s) f := by
  rw [← chkTo_s (2 * g) rels n ⟨s, []⟩]
  exact chkTo_mp (f := ⟨s, []⟩) hM hr ⟨h, fun p hp => by cases hp⟩ hm n hn
end
end Go.Proofs.Ct
namespace Go.Proofs.Ct
def nmS (s : St) (k : Nat) : List Int := (List.range s.t.length).map fun i => if i < k then (num s i : Int) else 0
theorem length_nmS (s : St) (k : Nat) : (nmS s k).length = s.t.length := by simp [nmS]
theorem nmS_getD (s : St) (k : Nat) {i : Nat} (h : i < s.t.length) : (nmS s k).getD i 0 = if i < k then (num s i : Int) else 0 := by
  unfold nmS
  simp [List.getD_eq_getElem?_getD, h]
theorem nmS_zero (s : St) : nmS s 0 = List.replicate s.t.length 0 := getD_ext (d := 0) (by simp [length_nmS]) fun i hi => by
  rw [length_nmS] at hi
  rw [nmS_getD s 0 hi, if_neg (by omega)]
  simp [List.getD_eq_getElem?_getD, hi]
theorem nmS_succ {s : St} {k : Nat} (h : k < s.t.length) : nmS s (k + 1) = (nmS s k).set k (num s k) := getD_ext (d := 0) (by simp [length_nmS]) fun i hi => by
  rw [length_nmS] at hi
  rw [nmS_getD s _ hi, getD_set, length_nmS]
  by_cases e : k = i
  · subst e; rw [if_pos (by omega), if_pos ⟨rfl, h⟩]
  · rw [if_neg (fun h' : k = i ∧ k < s.t.length => e h'.1), nmS_getD s _ hi]
    by_cases h2 : i < k
    · rw [if_pos h2, if_pos (by omega)]
    · rw [if_neg h2, if_neg (by omega)]
def sqF (s : St) (v : Int) : Int := if 0 ≤ v then (num s v.toNat : Int) else v
theorem mix_same {f : Int → Int} {x : List Int} {c : Nat} (_hc : c < x.length) (h : f (x.getD c 0) = x.getD c 0) : mixTo f x (c + 1) = mixTo f x c := getD_ext (d := 0) (by simp [length_mix]) fun i hi => by
  rw [length_mix] at hi
  rw [mix_getD f x _ hi, mix_getD f x _ hi]
  by_cases e : i = c
  · subst e; rw [if_pos (Nat.lt_succ_self _), if_neg (Nat.lt_irrefl _), h]
  · by_cases h2 : i < c
    · rw [if_pos h2, if_pos (by omega)]
    · rw [if_neg h2, if_neg (by omega)]
end Go.Proofs.Ct
namespace Go.Proofs
open Go.RowKit Go.Shelf Go.Proofs.Ct Go.Maps
theorem own_cell24 {base n : Nat} {W : World} {v : Value} {xs : List Value} (h : W.ownsRow base 24 1 v n xs) (hn : 0 < n) : ∃ g c, v = .slice (some ⟨g, 0, none⟩) n c ∧ base ≤ g ∧ g < W.heap.size ∧ n ≤ c ∧ (∃ C, W.heap[g]? = some (.cells C 24 (0, 0))) ∧ ∀ k u, xs[k]? = some u → W.cell? ⟨g, k, none⟩ = some u := by
  obtain ⟨hl, h⟩ := h
  rcases h with ⟨-, h0⟩ | ⟨g, cap, cur, rfl, hb, hc, h1, hm, hs, ht⟩
  · omega
  · refine ⟨g, cap, rfl, hb, (Array.getElem?_eq_some_iff.1 hc).1, h1, ⟨_, hc⟩, fun k u hu => ?_⟩
    rw [cell_of_row _ _ _ _ _ _ hc]
    have h3 : (cur.toList.take (n * 1))[k]? = some u := by rw [ht]; exact hu
    rw [List.getElem?_take] at h3
    split at h3
    · simpa using h3
    · cases h3
def rowV (s : St) (bl cs : Nat → Nat) (x : Nat) : Value := .slice (some ⟨bl x, 0, none⟩) (s.t.row x).length (cs x)
structure SqM (base : Nat) (s : St) (bl : Nat → Nat) (W1 wr : World) (R : Nat → List Int) : Prop where
  below : Below base W1 wr
  keep : ∀ k, k < W1.heap.size → (∀ i, i < (liv s).length → k ≠ bl ((liv s).getD i 0)) → wr.heap[k]? = W1.heap[k]?
  row : ∀ i, i < (liv s).length → XsAt wr (bl ((liv s).getD i 0)) (R i)
theorem SqM.congr {base : Nat} {s : St} {bl : Nat → Nat} {W1 wr : World} {R R' : Nat → List Int} (h : SqM base s bl W1 wr R) (he : ∀ i, i < (liv s).length → R' i = R i) : SqM base s bl W1 wr R' := ⟨h.below, h.keep, fun i hi => by rw [he i hi]; exact h.row i hi⟩
theorem SqM.set {base : Nat} {s : St} {bl : Nat → Nat} {W1 wr : World} {R : Nat → List Int} (h : SqM base s bl W1 wr R) (hb : ∀ i, i < (liv s).length → base ≤ bl ((liv s).getD i 0)) (hinj : ∀ i j, i < (liv s).length → j < (liv s).length → bl ((liv s).getD i 0) = bl ((liv s).getD j 0) → i = j) {j c : Nat} (hj : j < (liv s).length) (hc : c < (R j).length) (z : Int) :
    SqM base s bl W1 (wr.setCell ⟨bl ((liv s).getD j 0), c, none⟩ (.int .i64 z)) (fun i => if i = j then (R j).set c z else R i) := by
  refine ⟨h.below.setCell (p := ⟨bl ((liv s).getD j 0), c, none⟩) (hb j hj) _, fun k hk hn => ?_, fun i hi => ?_⟩
  · exact (Below.heap_setCell wr ⟨bl ((liv s).getD j 0), c, none⟩ (.int .i64 z) k (hn j hj)).trans (h.keep k hk hn)
  · by_cases e : i = j
    · subst e
      simp only [if_true]
      exact (h.row i hi).set hc z
    · simp only [if_neg e]
      exact (h.row i hi).keep (Below.heap_setCell wr ⟨bl ((liv s).getD j 0), c, none⟩ (.int .i64 z) _ (fun e' => e (hinj i j hi hj e')))
theorem xs_madeS (w : World) (s : St) : XsAt (w.alloc (.cells (Array.replicate s.t.length (.int .i64 0)) 3)) w.heap.size (nmS s 0) := by
  refine ⟨_, heap_alloc_new w _, by simp [length_nmS], fun k hk => ?_⟩
  rw [length_nmS] at hk
  rw [nmS_zero]
  simp [List.getD_eq_getElem?_getD, hk]
def SqueezePost (base : Nat) (s : St) (bl cs : Nat → Nat) (w : World) (e : Ending) (w' : World) : Prop :=
  ∃ A c, e = .returned (.tuple #[.slice (some ⟨w.heap.size, 0, none⟩) s.t.length s.t.length, .slice A (liv s).length c]) ∧ XsAt w' w.heap.size (nmS s s.t.length) ∧ w'.ownsRow w.heap.size 24 1 (.slice A (liv s).length c) (liv s).length ((liv s).map (rowV s bl cs)) ∧
    (∀ i, i < (liv s).length → XsAt w' (bl ((liv s).getD i 0)) (sqRow s ((liv s).getD i 0))) ∧ (∀ k, k < w.heap.size → (∀ i, i < (liv s).length → k ≠ bl ((liv s).getD i 0)) → w'.heap[k]? = w.heap[k]?) ∧ Below base w w'
set_option maxRecDepth 100000 in
set_option maxHeartbeats 1000000 in
theorem squeeze148_any (K : Nat → Prop) (T : TypeId) (ex : List Value) (bl cs : Nat → Nat) (g m base b lim : Nat) (_hm : m = 2 * g) (hg1 : 1 ≤ g) (hg : g ≤ 16) (w : World) (f : FS) (hR : Ct.Rest g f.s) (hS : StFB K T ex bl cs base b m lim w f) (hbw : base ≤ w.heap.size) (hn : f.s.t.length ≤ 100000) (hn1 : 1 ≤ f.s.t.length) :
    Calls Try.prog 148 #[.pointer (some ⟨b, 0, none⟩)] w (SqueezePost base f.s bl cs w) := by
  obtain ⟨s, ps⟩ := f
  simp only at *
  have HS := Lib.hid hS
  obtain ⟨hb, P, vr, vp, vq, vk, hB, hC, hK, hF⟩ := hS
  simp only at *
  obtain ⟨gr, cr, rfl, hgb, hgl, hgc, -, hgcell⟩ := own_cell24 hC.out hn1
  have hc2 := hB.cells.2.2.1
  have HC2 : Hid (∀ W, Below w.heap.size w W → W.cell? ⟨b, 2, none⟩ = some (.slice (some ⟨gr, 0, none⟩) s.t.length cr)) := Lib.hid fun W h => (h.cell (p := ⟨b, 2, none⟩) hB.lt).trans hc2
  have HRC : Hid (∀ W x, Below w.heap.size w W → x < s.t.length → W.cell? ⟨gr, x, none⟩ = some (rowV s bl cs x)) := Lib.hid fun W x h hx => (h.cell (p := ⟨gr, x, none⟩) hgl).trans (hgcell x _ (by simp [hx, rowV]))
  have HROW : Hid (∀ i, i < s.t.length → base ≤ bl i ∧ XsAt w (bl i) (s.t.row i) ∧ (s.t.row i).length ≤ cs i ∧ cs i ≤ 9223372036854775807) := Lib.hid hC.row
  have HINJ := Lib.hid hC.inj
  have HR := Lib.hid hR
  have hn0 : (s.t.length : Int) ≤ 1000000 := by omega
  have hn2 : (0 : Int) ≤ (s.t.length : Int) := Int.natCast_nonneg _
  have HR1 : Hid ((Instr.makeSlice 24 (.int .i64 (s.t.length : Int)) (.int .i64 (s.t.length : Int))).run Try.prog w = .ok (.slice (some ⟨w.heap.size, 0, none⟩) s.t.length s.t.length) (w.alloc (.cells (Array.replicate s.t.length (.int .i64 0)) 3))) := Lib.hid (make24r w _ (by omega))
  have HX1 := Lib.hid (xs_madeS w s)
  have HB1 : Hid (Below w.heap.size w (w.alloc (.cells (Array.replicate s.t.length (.int .i64 0)) 3))) := Lib.hid ((Below.refl _ _).alloc (Nat.le_refl _) _)
  generalize w.alloc (.cells (Array.replicate s.t.length (.int .i64 0)) 3) = W1 at *
  have hrows1 := HC2.out W1 HB1.out
  have hrows0 := HC2.out w (Below.refl _ _)
  have HO0 : Hid (W1.ownsRow w.heap.size 24 1 (.slice none (livTo s 0).length 0) (livTo s 0).length ((livTo s 0).map (rowV s bl cs))) := Lib.hid (World.ownsRow_nil _ _ _ _)
  clear hB hC hK hF hgcell hc2 hR hb hgb hgl
  go_enter Try.func148, Try.ntmps148
  go_wp2_with ((with_reducible refine wpList_sel 16 ?_); refine wpList_val rfl (r_make 24 (.tmp 15) (.tmp 15) rfl rfl rfl HR1.out) ?_)
  go_loopw [5, 22] (fun v i wr => ∃ (k : Nat) (A : Option Addr) (c : Nat), i = .int .i64 (k : Int) ∧ k ≤ s.t.length ∧ v = .slice A (livTo s k).length c ∧ Hid (XsAt wr w.heap.size (nmS s k)) ∧ Hid (wr.ownsRow w.heap.size 24 1 v (livTo s k).length ((livTo s k).map (rowV s bl cs))) ∧ Hid (Below w.heap.size w wr)) (fun _ i _ => s.t.length - (intOf i).toNat)
  case atStart => exact ⟨0, none, 0, rfl, Nat.zero_le _, rfl, HX1, HO0, HB1⟩
  case round =>
    clear HX1 HB1 HO0 hrows1 hrows0
    obtain ⟨k, A, c, rfl, hk, rfl, HX, HO, HB⟩ := hrel
    have hk0 : (0 : Int) ≤ (k : Int) := Int.natCast_nonneg _
    have hlk := livTo_le s k
    have hlk0 : (0 : Int) ≤ ((livTo s k).length : Int) := Int.natCast_nonneg _
    have hlk1 : ((livTo s k).length : Int) ≤ 1000000 := by omega
    by_cases hlt : k < s.t.length
    · have hltI : (k : Int) < (s.t.length : Int) := by omega
      have hcx := HX.out.cell (k := k) (by rw [length_nmS]; exact hlt)
      have hfx := HX.out.frozen k
      have HX2 : Hid (XsAt (wr.setCell ⟨w.heap.size, k, none⟩ (.int .i64 ((livTo s k).length : Int))) w.heap.size (nmS s (k + 1))) := Lib.hid (by
        rw [nmS_succ hlt]
        exact HX.out.set (k := k) (by rw [length_nmS]; exact hlt) (num s k))
      have HB2 : Hid (Below w.heap.size w (wr.setCell ⟨w.heap.size, k, none⟩ (.int .i64 ((livTo s k).length : Int)))) := Lib.hid (HB.out.setCell (p := ⟨w.heap.size, k, none⟩) (Nat.le_refl _) _)
      have HO2 : Hid ((wr.setCell ⟨w.heap.size, k, none⟩ (.int .i64 ((livTo s k).length : Int))).ownsRow w.heap.size 24 1 (.slice A (livTo s k).length c) (livTo s k).length ((livTo s k).map (rowV s bl cs))) := Lib.hid (owns_keep HO.out fun r hr => Below.heap_setCell wr ⟨w.heap.size, k, none⟩ _ r fun e => by
        obtain ⟨-, C, hC⟩ := owns_block HO.out r hr
        have e' : r = w.heap.size := e
        obtain ⟨C2, hC2, -⟩ := HX.out
        rw [e', hC2] at hC
        cases hC)
      have HAL : Hid (∀ W, Below w.heap.size w W → Calls Try.prog 198 #[.pointer (some ⟨b, 0, none⟩), .int .i64 (k : Int)] W fun e w' => e = .returned (.bool (decide (s.rp k = k))) ∧ w' = W) := Lib.hid fun W h => alive198_any K T ex bl cs base b m lim k W ⟨s, ps⟩ (HS.out.below h) hlt
      have hr0 := HC2.out _ HB2.out
      have hr1 := HRC.out _ k HB2.out hlt
      clear HX HO HB
      generalize hWk : wr.setCell ⟨w.heap.size, k, none⟩ (.int .i64 ((livTo s k).length : Int)) = Wk at *
      cases hal : decide (s.rp k = k) with
      | true =>
        have HLS : Hid (livTo s (k + 1) = livTo s k ++ [k]) := Lib.hid (by rw [livTo_succ, if_pos (of_decide_eq_true hal)])
        obtain ⟨A', c', w', hr, ho, hg', hw⟩ := run_push (t := 22) (ty := 22) Try.underlying22 info24p rfl (by omega) Wk w.heap.size (.slice A (livTo s k).length c) (livTo s k).length _ HO2.out (rowV s bl cs k) rfl (by omega) HB2.out.size
        have HRUN := Lib.hid hr
        have hll : (livTo s (k + 1)).length = (livTo s k).length + 1 := by rw [HLS.out, List.length_append]; rfl
        have HO3 : Hid (w'.ownsRow w.heap.size 24 1 (.slice A' (livTo s (k + 1)).length c') (livTo s (k + 1)).length ((livTo s (k + 1)).map (rowV s bl cs))) := Lib.hid (by rw [hll, HLS.out, List.map_append]; exact ho)
        have HX3 : Hid (XsAt w' w.heap.size (nmS s (k + 1))) := Lib.hid (HX2.out.grown hg' fun e => by
          obtain ⟨-, C, hC⟩ := owns_block HO2.out _ e
          obtain ⟨C2, hC2, -⟩ := HX2.out
          rw [hC2] at hC
          cases hC)
        have HB3 : Hid (Below w.heap.size w w') := Lib.hid (HB2.out.grown hg' HB2.out.size fun r hr => (owns_block HO2.out r hr).1)
        have HLL := Lib.hid hll
        clear hr ho hg' hw hll
        unfold rowV at HRUN hr1
        go_wp2_with (first
          | (go_at_call 198; (with_reducible refine (HAL.out _ HB2.out).mono ?_); rintro E w2 ⟨rfl, rfl⟩; rw [hal]; clear hWk)
          | ((with_reducible refine wpList_sel 42 ?_); refine wpList_val rfl (r_app (.tmp 33) (.tmp 41) 22 rfl rfl rfl HRUN.out) ?_))
        go_roundw
        case rel => exact ⟨k + 1, A', c', by go_num, by omega, by rw [HLL.out], HX3, Lib.hid (by rw [← HLL.out]; exact HO3.out), HB3⟩
        case measure => simp [intOf]; omega
      | false =>
        have HLS : Hid (livTo s (k + 1) = livTo s k) := Lib.hid (by rw [livTo_succ, if_neg (of_decide_eq_false hal)])
        go_wp2_with (first
          | (go_at_call 198; (with_reducible refine (HAL.out _ HB2.out).mono ?_); rintro E w2 ⟨rfl, rfl⟩; rw [hal]; clear hWk))
        go_roundw
        case rel => exact ⟨k + 1, A, c, by go_num, by omega, by rw [HLS.out], HX2, Lib.hid (by rw [HLS.out]; exact HO2.out), HB2⟩
        case measure => simp [intOf]; omega
    · obtain rfl : k = s.t.length := by omega
      rename World => W2
      have HL : Hid (livTo s s.t.length = liv s) := Lib.hid rfl
      rw [HL.out] at HO hlk hlk0 hlk1
      have HLA : Hid (∀ i, i < (liv s).length → (liv s).getD i 0 < s.t.length ∧ s.rp ((liv s).getD i 0) = (liv s).getD i 0 ∧ num s ((liv s).getD i 0) = i) := Lib.hid fun i hi => liv_at hi
      have HJ : Hid (∀ i j, i < (liv s).length → j < (liv s).length → bl ((liv s).getD i 0) = bl ((liv s).getD j 0) → i = j) := Lib.hid fun i j hi hj h => by
        have h1 := HLA.out i hi
        have h2 := HLA.out j hj
        have h3 := HINJ.out _ _ h1.1 h2.1 h
        rw [← h1.2.2, ← h2.2.2, h3]
      have HBB : Hid (∀ i, i < (liv s).length → base ≤ bl ((liv s).getD i 0) ∧ bl ((liv s).getD i 0) < w.heap.size) := Lib.hid fun i hi => by
        have h1 := HROW.out _ (HLA.out i hi).1
        exact ⟨h1.1, h1.2.1.lt⟩
      have HSQ : Hid (SqM base s bl W2 W2 (fun i => if i < 0 then sqRow s ((liv s).getD i 0) else s.t.row ((liv s).getD i 0))) := Lib.hid ⟨Below.refl _ _, fun _ _ _ => rfl, fun i hi => by
        rw [if_neg (Nat.not_lt_zero _)]
        exact (HROW.out _ (HLA.out i hi).1).2.1.below HB.out⟩
      have hlv1 : 1 ≤ (liv s).length := by
        have := (num_liv (s := s) (x := 0) (by omega) (by have := HR.out.inv.rle 0 (by omega); omega)).1
        omega
      obtain ⟨gA, cA, eA, hgA, -, -, -, hcA⟩ := own_cell24 HO.out (by omega)
      injection eA with e1 e2 e3
      subst e1; subst e3
      have HKW : Hid (∀ W R, SqM base s bl W2 W R → (∀ j, j < (liv s).length → W.cell? ⟨gA, j, none⟩ = some (rowV s bl cs ((liv s).getD j 0))) ∧ XsAt W w.heap.size (nmS s s.t.length)) := Lib.hid fun W R h => by
        have hz : w.heap.size < W2.heap.size := HX.out.lt
        refine ⟨fun j hj => ?_, HX.out.keep (h.keep _ hz fun i hi e => by have := (HBB.out i hi).2; omega)⟩
        have h1 := hcA j (rowV s bl cs ((liv s).getD j 0)) (by simp [List.getD_eq_getElem?_getD, hj])
        have hgl := World.block_lt_of_cell? W2 _ h1
        have h2 := h.keep gA hgl fun i hi e => by have := (HBB.out i hi).2; omega
        unfold World.cell? at h1 ⊢
        simp only [h2]
        exact h1
      have HXN := HX
      have HON := HO
      have HBN := HB
      clear hlt hk HX HO HB e2 hcA
      go_wp2_with fail
      go_loopw [46] (fun i wr => ∃ j : Nat, i = .int .i64 (j : Int) ∧ j ≤ (liv s).length ∧ Hid (SqM base s bl W2 wr (fun i => if i < j then sqRow s ((liv s).getD i 0) else s.t.row ((liv s).getD i 0)))) (fun i _ => (liv s).length - (intOf i).toNat)
      case atStart => exact ⟨0, rfl, Nat.zero_le _, HSQ⟩
      case round =>
        clear HSQ
        obtain ⟨j, rfl, hj, HSQ⟩ := hrel
        have hj0 : (0 : Int) ≤ (j : Int) := Int.natCast_nonneg _
        by_cases hlt : j < (liv s).length
        · have hjI : (j : Int) < ((liv s).length : Int) := by omega
          have hcr := (HKW.out _ _ HSQ.out).1 j hlt
          obtain ⟨hxl, -, -⟩ := HLA.out j hlt
          have hrl : (s.t.row ((liv s).getD j 0)).length = 2 * g := HR.out.inv.len _ hxl
          have HRB : Hid (∀ c, c < 2 * g → -1 ≤ (s.t.row ((liv s).getD j 0)).getD c 0 ∧ (s.t.row ((liv s).getD j 0)).getD c 0 < s.t.length) := Lib.hid fun c hc => HR.out.inv.bd _ hxl c hc
          have HRL := Lib.hid hrl
          have HSR : Hid (sqRow s ((liv s).getD j 0) = (s.t.row ((liv s).getD j 0)).map (sqF s)) := Lib.hid rfl
          have HSQ3 : Hid (SqM base s bl W2 wr (fun i => if i = j then mixTo (sqF s) (s.t.row ((liv s).getD j 0)) 0 else if i < j then sqRow s ((liv s).getD i 0) else s.t.row ((liv s).getD i 0))) := Lib.hid (HSQ.out.congr fun i hi => by
            by_cases e : i = j
            · subst e; rw [if_pos rfl, if_neg (Nat.lt_irrefl _), mix_zero]
            · rw [if_neg e])
          have hg0 : (1 : Int) ≤ (g : Int) := by omega
          have hgI : (g : Int) ≤ 16 := by omega
          unfold rowV at hcr
          rw [hrl] at hcr
          clear hrl hxl
          generalize hxx : (liv s).getD j 0 = x at *
          have HXX := Lib.hid hxx
          clear hxx
          go_wp2_with fail
          go_loopw [52] (fun i wr => ∃ c : Nat, i = .int .i64 (c : Int) ∧ c ≤ 2 * g ∧ Hid (SqM base s bl W2 wr (fun i => if i = j then mixTo (sqF s) (s.t.row x) c else if i < j then sqRow s ((liv s).getD i 0) else s.t.row ((liv s).getD i 0)))) (fun i _ => 2 * g - (intOf i).toNat)
          case atStart => exact ⟨0, rfl, Nat.zero_le _, HSQ3⟩
          case round =>
            clear HSQ3 HSQ hcr
            obtain ⟨c, rfl, hc, HSQ⟩ := hrel
            have hc0 : (0 : Int) ≤ (c : Int) := Int.natCast_nonneg _
            by_cases hcg : c < 2 * g
            · have hcI : (c : Int) < 2 * (g : Int) := by omega
              have hx := HSQ.out.row j hlt
              simp only [if_true] at hx
              rw [HXX.out] at hx
              have hml : c < (mixTo (sqF s) (s.t.row x) c).length := by rw [length_mix, HRL.out]; exact hcg
              have hck := hx.cell hml
              rw [mix_getD _ _ _ (by rw [HRL.out]; exact hcg), if_neg (Nat.lt_irrefl _)] at hck
              have hfk := hx.frozen c
              obtain ⟨hb1, hb2⟩ := HRB.out c hcg
              obtain ⟨v, hv⟩ : ∃ v, v = (s.t.row x).getD c 0 := ⟨_, rfl⟩
              rw [← hv] at hck hb1 hb2
              have HSS : Hid (∀ z, SqM base s bl W2 (wr.setCell ⟨bl x, c, none⟩ (.int .i64 z)) (fun i => if i = j then (mixTo (sqF s) (s.t.row x) c).set c z else if i < j then sqRow s ((liv s).getD i 0) else s.t.row ((liv s).getD i 0))) := Lib.hid fun z => by
                have h1 := HSQ.out.set (fun i hi => (HBB.out i hi).1) HJ.out hlt (by simp only [if_true]; exact hml) z
                rw [HXX.out] at h1
                refine h1.congr fun i hi => ?_
                by_cases e : i = j
                · subst e; simp only [if_true]
                · simp only [if_neg e]
              by_cases h0 : 0 ≤ v
              · obtain ⟨y, rfl⟩ : ∃ y : Nat, v = (y : Int) := ⟨v.toNat, by omega⟩
                have hyl : y < s.t.length := by omega
                have hx2 := (HKW.out _ _ HSQ.out).2.cell (k := y) (by rw [length_nmS]; exact hyl)
                rw [nmS_getD s _ hyl, if_pos hyl] at hx2
                have HMX : Hid (mixTo (sqF s) (s.t.row x) (c + 1) = (mixTo (sqF s) (s.t.row x) c).set c (num s y : Int)) := Lib.hid (by
                  rw [mix_set _ _ (by rw [HRL.out]; exact hcg), ← hv]
                  unfold sqF
                  rw [if_pos h0, Int.toNat_natCast])
                have HS5 := Lib.hid (HSS.out (num s y : Int))
                have hy0 : (0 : Int) ≤ (y : Int) := Int.natCast_nonneg _
                clear HSS hx hml hv hb1
                go_wp2_with fail
                go_roundw
                case rel => exact ⟨c + 1, by go_num, by omega, Lib.hid (by rw [HMX.out]; exact HS5.out)⟩
                case measure => simp [intOf]; omega
              · have HMX : Hid (mixTo (sqF s) (s.t.row x) (c + 1) = mixTo (sqF s) (s.t.row x) c) := Lib.hid (mix_same (by rw [HRL.out]; exact hcg) (by rw [← hv]; unfold sqF; rw [if_neg h0]))
                clear HSS hx hml hv
                go_wp2_with fail
                go_roundw
                case rel => exact ⟨c + 1, by go_num, by omega, Lib.hid (by rw [HMX.out]; exact HSQ.out)⟩
                case measure => simp [intOf]; omega
            · obtain rfl : c = 2 * g := by omega
              have HS6 : Hid (SqM base s bl W2 wr (fun i => if i < j + 1 then sqRow s ((liv s).getD i 0) else s.t.row ((liv s).getD i 0))) := Lib.hid (HSQ.out.congr fun i hi => by
                by_cases e : i = j
                · subst e; rw [if_pos rfl, if_pos (Nat.lt_succ_self _), HXX.out, ← HRL.out, mix_all]; rfl
                · rw [if_neg e]
                  by_cases e2 : i < j
                  · rw [if_pos e2, if_pos (by omega)]
                  · rw [if_neg e2, if_neg (by omega)])
              go_wp2_with fail
              go_roundw
              case rel => exact ⟨j + 1, by go_num, by omega, HS6⟩
              case measure => simp [intOf]; omega
        · obtain rfl : j = (liv s).length := by omega
          go_wp2_with fail
          go_ret2
          have h := HSQ.out
          refine ⟨_, _, rfl, (HKW.out _ _ h).2, owns_keep HON.out fun r hr => h.keep r (owns_lt HON.out hr) fun i hi e => ?_, fun i hi => ?_, fun k hk hn => (h.keep k (Nat.lt_of_lt_of_le hk HBN.out.size) hn).trans (HBN.out.block k hk), (HBN.out.mono hbw).trans h.below⟩
          · have h1 := (owns_block HON.out r hr).1
            have h2 := (HBB.out i hi).2
            omega
          · have h1 := h.row i hi
            rwa [if_pos hi] at h1
end Go.Proofs
namespace Go.Proofs
open Go.RowKit Go.Shelf Go.Proofs.Ct Go.Maps
def felschE (g : Int) (rels sub : List W) (limit : Int) : Tb × (Int × Int) × Int :=
  if givenE g rels sub limit ≠ 0 then ([], (0, 0), givenE g rels sub limit) else
  match felschS (2 * g.toNat) limit.toNat rels sub with
  | none => ([], (0, 0), 12)
  | some f => ((stdE g (tabS f.s) 0).1, ((f.s.t.length : Int), f.s.most), 0)
theorem felschE_bad {g : Int} {rels sub : List W} {limit : Int} (h : givenE g rels sub limit ≠ 0) : felschE g rels sub limit = ([], (0, 0), givenE g rels sub limit) := if_pos h
theorem felschE_full {g lim : Nat} {rels sub : List W} (h : givenE g rels sub lim = 0) (h3 : felschS (2 * g) lim rels sub = none) : felschE g rels sub lim = ([], (0, 0), 12) := by
  unfold felschE; rw [if_neg (by rw [h]; simp), Int.toNat_natCast, Int.toNat_natCast, h3]
theorem felschE_some {g lim : Nat} {rels sub : List W} {f : FS} (h : givenE g rels sub lim = 0) (h3 : felschS (2 * g) lim rels sub = some f) : felschE g rels sub lim = ((stdE g (tabS f.s) 0).1, ((f.s.t.length : Int), f.s.most), 0) := by
  unfold felschE; rw [if_neg (by rw [h]; simp), Int.toNat_natCast, Int.toNat_natCast, h3]
theorem givenE_all {g : Int} {rels sub : List W} {limit : Int} (h : givenE g rels sub limit = 0) : ∃ gn lim : Nat, g = gn ∧ limit = lim ∧ 1 ≤ gn ∧ gn ≤ 16 ∧ rels.length ≤ 100 ∧ (∀ j, j < rels.length → LetsOk gn (rels.getD j []) ∧ (rels.getD j []).length ≤ 4000) ∧ (∀ j, LOk gn (rels.getD j [])) ∧ (∀ j, LOk gn (sub.getD j [])) ∧ sub.length ≤ 100 ∧ 1 ≤ lim ∧ lim ≤ 20000 := by
  unfold givenE at h
  split at h
  · next h1 => exact absurd h h1
  · next h1 =>
    obtain ⟨gn, rfl, hg1, hg16, hrl, hrg⟩ := presE_good (Decidable.not_not.1 h1)
    rw [Int.toNat_natCast] at h
    split at h
    · cases h
    · next h2 =>
      unfold badArgs at h2
      simp only [Bool.or_eq_true, decide_eq_true_eq, not_or] at h2
      obtain ⟨⟨⟨⟨h3, h4⟩, h5⟩, h6⟩, h7⟩ := h2
      have h5' : (sub.any fun w => w.any (letBad gn)) = false := by simpa using h5
      refine ⟨gn, limit.toNat, rfl, by omega, hg1, hg16, hrl, hrg, fun j => ?_, fun j => ?_, by omega, by omega, by omega⟩
      rcases Nat.lt_or_ge j rels.length with hj | hj
      · exact (hrg j hj).1
      · rw [List.getD_eq_getElem?_getD, List.getElem?_eq_none hj]
        exact fun x hx => by cases hx
      · rcases Nat.lt_or_ge j sub.length with hj | hj
        · exact subs_good h5' j hj
        · rw [List.getD_eq_getElem?_getD, List.getElem?_eq_none hj]
          exact fun x hx => by cases hx
theorem sq_tab {g : Nat} {s : St} (h : Ct.Rest g s) (hc : ∀ r, r < s.t.length → s.rp r = r → ∀ c, c < 2 * g → 0 ≤ s.t.at r c) : (liv s).map (sqRow s) = tabS s := by
  unfold tabS
  refine List.map_congr_left fun x hx => ?_
  obtain ⟨i, hi, rfl⟩ := List.mem_iff_getElem.1 hx
  have h1 := liv_at (s := s) hi
  rw [List.getD_eq_getElem?_getD, List.getElem?_eq_getElem hi] at h1
  simp only [Option.getD_some] at h1
  unfold sqRow
  refine List.map_congr_left fun v hv => ?_
  obtain ⟨c, hcl, rfl⟩ := List.mem_iff_getElem.1 hv
  have h2 := hc _ h1.1 h1.2.1 c (by rw [← h.inv.len _ h1.1]; exact hcl)
  unfold Tb.at at h2
  rw [List.getD_eq_getElem?_getD, List.getElem?_eq_getElem hcl] at h2
  exact if_pos h2
end Go.Proofs
