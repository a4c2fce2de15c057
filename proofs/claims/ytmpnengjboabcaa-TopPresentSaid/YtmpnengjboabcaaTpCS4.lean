/- Universality, plainly: an enumeration's state maps onto whatever satisfies its relators; Coset tables, plainly: what an enumeration's table is; maps between tables; how many cosets lie over one; Representatives lead to their cosets, plainly; Conjugates of subgroups, plainly: the standard table with another base; Free reduction, plainly: words up to cancelling; Rewriting in a Schreier system, plainly: products, tree words, telescoping (the law of RewriteBack). -/
import Derived.Test.YtmpnengjboabcaaTpCS3
import Derived.Test.YtmpnengjboabcaaTpCS1
namespace Go.Proofs.Ct
def actW {α : Type} (act : α → Nat → α) : α → W → α
  | p, [] => p
  | p, l :: w => actW act (act p (col l)) w
/-- points on which letters act, in which the relators are closed -/
structure Mdl (g : Nat) (rels : List W) {α : Type} (D : α → Prop) (act : α → Nat → α) : Prop where
  cl : ∀ p c, D p → c < 2 * g → D (act p c)
  inv : ∀ p c, D p → c < 2 * g → act (act p c) (flp c) = p
  rel : ∀ p i, D p → i < rels.length → actW act p (rels.getD i []) = p
/-- a map of the cosets to the points -/
structure Mp (g : Nat) {α : Type} (D : α → Prop) (act : α → Nat → α) (s : St) (f : Nat → α) : Prop where
  dom : ∀ x, x < s.t.length → D (f x)
  rp : ∀ x, x < s.t.length → f (s.rp x) = f x
  edge : ∀ x c y, x < s.t.length → c < 2 * g → Edge s.t x c y → act (f x) c = f y
section
variable {α : Type} {g lim : Nat} {rels sub : List W} {D : α → Prop} {act : α → Nat → α} {s : St} {f : Nat → α}
theorem actW_app {u v : W} : ∀ {p : α}, actW act p (u ++ v) = actW act (actW act p u) v := by
  induction u with
  | nil => intro p; rfl
  | cons l u ih => intro p; exact ih
theorem Mdl.clW (h : Mdl g rels D act) : ∀ {w : W} {p : α}, LOk g w → D p → D (actW act p w) := by
  intro w
  induction w with
  | nil => intro p _ hp; exact hp
  | cons l w ih => intro p hw hp; exact ih hw.cons.2 (h.cl _ _ hp (col_ltL hw.cons.1))
theorem Mdl.invW (h : Mdl g rels D act) : ∀ {w : W} {p : α}, LOk g w → D p → actW act (actW act p w) (Ct.inv w) = p := by
  intro w
  induction w with
  | nil => intro p _ _; rfl
  | cons l w ih =>
    intro p hw hp
    have hc := col_ltL hw.cons.1
    rw [inv_cons, actW_app]
    show actW act (actW act (actW act (act p (col l)) w) (Ct.inv w)) [-l] = p
    rw [ih hw.cons.2 (h.cl _ _ hp hc)]
    show act (act p (col l)) (col (-l)) = p
    rw [col_inv hw.cons.1.2.2]
    exact h.inv p _ hp hc
theorem Mp.merge (h : Mp g D act s f) (hI : Inv g s) {a b : Nat} (ha : a < s.t.length) (hb : b < s.t.length) (e : f a = f b) : Mp g D act (mergeS s a b) f := by
  have ht := t_merge s a b
  refine ⟨by rw [ht]; exact h.dom, fun x hx => ?_, by rw [ht]; exact h.edge⟩
  rw [ht] at hx
  rw [rp_merge hI ha hb hx]
  have h1 := h.rp x hx
  have h2 := h.rp a ha
  have h3 := h.rp b hb
  split
  · rename_i e2
    rw [e2] at h1
    rcases Nat.le_total (s.rp a) (s.rp b) with h' | h'
    · rw [Nat.min_eq_left h']
      rw [Nat.max_eq_right h'] at h1
      rw [h2, e, ← h3, h1]
    · rw [Nat.min_eq_right h']
      rw [Nat.max_eq_left h'] at h1
      rw [h3, ← e, ← h2, h1]
  · exact h1
theorem Mp.step (_hM : Mdl g rels D act) (h : Mp g D act s f) (hI : Inv g s) {e c : Nat} (he : e < s.t.length) (hc : c < 2 * g) : Mp g D act (stepS e c s) f := by
  unfold stepS
  by_cases hd : s.t.at e c < 0
  · rw [if_pos hd]; exact h
  · rw [if_neg hd]
    have hd' : 0 ≤ s.t.at e c := by omega
    obtain ⟨d, hdd⟩ := Int.eq_ofNat_of_zero_le hd'
    have hE : Edge s.t e c d := hdd
    have hdn := hE.lt hI he hc
    have hcut := hI.cut he hc hd'
    have hat := at_cut hI he hc hd'
    have hlen := length_cut s.t e c
    have hun := hI.rlt he
    have hvn := hI.rlt hdn
    have hf := flp_lt2 hc
    rw [hdd, Int.toNat_natCast] at hat ⊢
    have hM1 : Mp g D act { s with t := cutT s.t e c } f := ⟨fun x hx => h.dom x (by simpa [hlen] using hx), fun x hx => h.rp x (by simpa [hlen] using hx), fun x k y hx hk hy => by
      simp only [hlen] at hx
      unfold Edge at hy
      simp only at hy
      rw [hat] at hy
      split at hy
      · omega
      · exact h.edge x k y hx hk hy⟩
    have hfe := h.edge e c d he hc hE
    have hfb := h.edge d (flp c) e hdn hf (hE.back hI he hc)
    have hre := h.rp e he
    have hrd := h.rp d hdn
    generalize hs1 : ({ s with t := cutT s.t e c } : St) = s1 at *
    have ht1 : s1.t = cutT s.t e c := by rw [← hs1]
    have hn1 : s1.t.length = s.t.length := by rw [ht1, hlen]
    rw [← ht1] at hat ⊢
    by_cases h1 : 0 ≤ s1.t.at (s.rp e) c
    · rw [if_pos h1]
      obtain ⟨w, hw⟩ := Int.eq_ofNat_of_zero_le h1
      have hE1 : Edge s1.t (s.rp e) c w := hw
      have hwn : w < s1.t.length := hE1.lt hcut (by rw [hn1]; exact hun) hc
      have h2 := hM1.edge _ c w (by rw [hn1]; exact hun) hc hE1
      rw [hw, Int.toNat_natCast]
      exact hM1.merge hcut hwn (by rw [hn1]; exact hvn) (by rw [← h2, hre, hfe, hrd])
    · rw [if_neg h1]
      by_cases h2 : 0 ≤ s1.t.at (s.rp d) (flp c)
      · rw [if_pos h2]
        obtain ⟨w, hw⟩ := Int.eq_ofNat_of_zero_le h2
        have hE1 : Edge s1.t (s.rp d) (flp c) w := hw
        have hwn : w < s1.t.length := hE1.lt hcut (by rw [hn1]; exact hvn) hf
        have h3 := hM1.edge _ (flp c) w (by rw [hn1]; exact hvn) hf hE1
        rw [hw, Int.toNat_natCast]
        exact hM1.merge hcut hwn (by rw [hn1]; exact hun) (by rw [← h3, hrd, hfb, hre])
      · rw [if_neg h2]
        have haj := at_join hcut (u := s.rp e) (v := s.rp d) (c := c) (by omega) (by omega) hc
        have hlj := length_join s1.t (s.rp e) c (s.rp d)
        refine ⟨fun x hx => h.dom x (by simp only [hlj] at hx; omega), fun x hx => h.rp x (by simp only [hlj] at hx; omega), fun x k y hx hk hy => ?_⟩
        simp only [hlj] at hx
        unfold Edge at hy
        simp only at hy
        rw [haj] at hy
        split at hy
        · rename_i e1
          have : y = s.rp e := by omega
          rw [this, e1.1, e1.2, hrd, hre]
          exact hfb
        · split at hy
          · rename_i e1
            have : y = s.rp d := by omega
            rw [this, e1.1, e1.2, hrd, hre]
            exact hfe
          · exact hM1.edge x k y hx hk hy
theorem proc_mp (hM : Mdl g rels D act) (h : Mp g D act s f) (hI : Inv g s) {k : Nat} (hq : QI g k 0 s) (hk : k < s.q.length) : ∀ c, c ≤ 2 * g → Mp g D act (procTo (s.q.getD k 0) c s) f
  | 0, _ => h
  | c + 1, hc => by
    have ih := proc_mp hM h hI hq hk c (by omega)
    obtain ⟨h1, h2, h3, h4, h5, h6⟩ := proc_q hI hq hk c (by omega)
    have hlt : s.q.getD k 0 < (procTo (s.q.getD k 0) c s).t.length := by rw [h2.n]; exact (hq.qd k hk).1
    exact ih.step hM h1 hlt (by omega)
theorem coinTo_mp (hM : Mdl g rels D act) (h : Mp g D act s f) (hI : Inv g s) (hq : QI g 0 0 s) : ∀ k, Mp g D act (coinTo (2 * g) k s) f
  | 0 => h
  | k + 1 => by
    have ih := coinTo_mp hM h hI hq k
    obtain ⟨h1, h2, h3, h4⟩ := coinTo_inv hI hq k
    unfold coinTo at h1 h2 h3 h4 ih ⊢
    rw [foldTo]
    generalize foldTo (fun k s => if k < s.q.length then procTo (s.q.getD k 0) (2 * g) s else s) k s = s1 at *
    by_cases hk : k < s1.q.length
    · rw [if_pos hk]
      rw [show min k s1.q.length = k by omega] at h3
      exact proc_mp hM ih h1 h3 hk (2 * g) (Nat.le_refl _)
    · rw [if_neg hk]; exact ih
theorem Mp.coin (hM : Mdl g rels D act) (h : Mp g D act s f) (hR : Rest g s) {a b : Nat} (ha : a < s.t.length) (hb : b < s.t.length) (e : f a = f b) : Mp g D act (coinS (2 * g) s a b) f := by
  have h0 : Inv g { s with q := [] } := ⟨hR.inv.len, hR.inv.bd, hR.inv.rl, hR.inv.rle, hR.inv.rid, hR.inv.back⟩
  have hq0 : QI g 0 0 { s with q := [] } := ⟨fun x hx hd c hc h0 => absurd h0 (by have := hR.dead x hx hd c hc; simp only at h0; omega), fun j hj => absurd hj (by simp), Nat.zero_le _, hR.lv⟩
  have hm := h0.merge (a := a) (b := b) ha hb
  have hqm := hq0.merge h0 (.inr ⟨rfl, rfl⟩) (a := a) (b := b) ha hb
  have hf : Mp g D act { s with q := [] } f := ⟨h.dom, h.rp, h.edge⟩
  exact coinTo_mp hM (hf.merge h0 ha hb e) hm hqm s.t.length
theorem Mp.way (h : Mp g D act s f) (hI : Inv g s) : ∀ {w : W} {x y : Nat}, LOk g w → x < s.t.length → Way s.t x w y → actW act (f x) w = f y := by
  intro w
  induction w with
  | nil => intro x y _ _ e; have e : x = y := e; rw [e]; rfl
  | cons l w ih =>
    rintro x y hw hx ⟨z, h1, h2⟩
    have hz := h1.lt hI hx (col_ltL hw.cons.1)
    show actW act (act (f x) (col l)) w = f y
    rw [h.edge _ _ _ hx (col_ltL hw.cons.1) h1]
    exact ih hw.cons.2 hz h2
theorem Mp.join (hM : Mdl g rels D act) (h : Mp g D act s f) (hI : Inv g s) {u v c : Nat} (hu : u < s.t.length) (hv : v < s.t.length) (hc : c < 2 * g) (e : act (f u) c = f v) : Mp g D act (joinS s u c v) f := by
  have haj := at_join hI hu hv hc
  have hlj := length_joinS (s := s) u c v
  refine ⟨fun x hx => h.dom x (by omega), fun x hx => h.rp x (by omega), fun x k y hx hk hy => ?_⟩
  rw [hlj] at hx
  have hy' : (joinT s.t u c v).at x k = (y : Int) := hy
  rw [haj] at hy'
  split at hy'
  · rename_i e1
    have : y = u := by omega
    rw [this, e1.1, e1.2, ← e]
    exact hM.inv _ _ (h.dom u hu) hc
  · split at hy'
    · rename_i e1
      have : y = v := by omega
      rw [this, e1.1, e1.2]
      exact e
    · exact h.edge x k y hx hk hy'
theorem Mp.defn (hM : Mdl g rels D act) (h : Mp g D act s f) (hI : Inv g s) {r c : Nat} (hr : r < s.t.length) (hc : c < 2 * g) : Mp g D act (defS (2 * g) s r c) (fun x => if x = s.t.length then act (f r) c else f x) := by
  have hla := length_add (s := s) (2 * g)
  have h1 : Mp g D act (addS (2 * g) s) (fun x => if x = s.t.length then act (f r) c else f x) := by
    refine ⟨fun x hx => ?_, fun x hx => ?_, fun x k y hx hk hy => ?_⟩
    · rw [hla] at hx
      split
      · exact hM.cl _ _ (h.dom r hr) hc
      · exact h.dom x (by omega)
    · rw [hla] at hx
      rcases Nat.lt_or_ge x s.t.length with h2 | h2
      · have := hI.rlt h2
        rw [rp_add_old hI _ h2, if_neg (by omega), if_neg (by omega)]
        exact h.rp x h2
      · obtain rfl : x = s.t.length := by omega
        rw [rp_add_new hI]
    · rw [hla] at hx
      rcases Nat.lt_or_ge x s.t.length with h2 | h2
      · unfold Edge at hy
        rw [at_add_old _ h2] at hy
        have := Edge.lt hI h2 hk hy
        rw [if_neg (by omega), if_neg (by omega)]
        exact h.edge x k y h2 hk hy
      · obtain rfl : x = s.t.length := by omega
        unfold Edge at hy
        rw [at_add_new _ _ hk] at hy
        omega
  exact h1.join hM hI.add (u := r) (v := s.t.length) (c := c) (by omega) (by omega) hc (by rw [if_neg (by omega), if_pos rfl])
theorem scan_mp (hM : Mdl g rels D act) (h : Mp g D act s f) (hR : Rest g s) {r : Nat} (hr : r < s.t.length) (hlr : s.rp r = r) {w : W} (hw : LOk g w) (hcl : actW act (f r) w = f r) : ∀ s', scanS (2 * g) s r w = (s', none) → Mp g D act s' f := by
  obtain ⟨f1, f2, f3⟩ := fwd_spec s.t r w
  have fp := fwd_pos s.t r w
  obtain ⟨b1, b2, b3⟩ := bwd_spec s.t r w (fwd s.t r w)
  have bp := bwd_pos s.t r w (fwd s.t r w)
  obtain ⟨fl, flv⟩ := lead_live hR hw hr hlr _ f1 fp
  obtain ⟨bl, blv⟩ := lead_live hR hw.inv hr hlr _ (by rw [length_inv]; exact b1) bp
  have hF := way_of_lead _ f1 fp
  have hB := way_inv hR.inv (fun x hx => hw.inv x (List.mem_of_mem_take hx)) hr (way_of_lead _ (by rw [length_inv]; exact b1) bp)
  rw [drop_inv b1] at hB
  have hik : fwd s.t r w + bwd s.t r w (fwd s.t r w) ≤ w.length := by
    rcases Nat.eq_zero_or_pos (bwd s.t r w (fwd s.t r w)) with h0 | h0
    · omega
    · have := (b3 (bwd s.t r w (fwd s.t r w) - 1) (by omega)).1
      omega
  have hwt : ∀ k, LOk g (w.take k) := fun k x hx => hw x (List.mem_of_mem_take hx)
  have hwd : ∀ k, LOk g (w.drop k) := fun k x hx => hw x (List.mem_of_mem_drop hx)
  unfold scanS
  generalize hi : fwd s.t r w = i at *
  generalize hk : bwd s.t r w i = k at *
  generalize leadTo s.t r w i = a at *
  generalize leadTo s.t r (Ct.inv w) k = b at *
  have hFa := h.way hR.inv (hwt i) hr hF
  have hBa := h.way hR.inv (hwd _) bl hB
  have hinvd : ∀ j, actW act (actW act (f r) (w.take j)) (w.drop j) = f r := fun j => by rw [← actW_app, List.take_append_drop]; exact hcl
  have hcan : ∀ j p q, LOk g (w.drop j) → D p → D q → actW act p (w.drop j) = actW act q (w.drop j) → p = q := fun j p q h1 hp hq e => by
    rw [← hM.invW h1 hp, e, hM.invW h1 hq]
  intro s' e
  by_cases h1 : i = w.length
  · rw [if_pos h1] at e
    by_cases h2 : a = (r : Int)
    · rw [if_pos h2] at e
      cases e; exact h
    · rw [if_neg h2] at e
      cases e
      refine h.coin hM hR fl hr ?_
      rw [← hFa, h1, List.take_length]
      exact hcl
  · rw [if_neg h1] at e
    by_cases h2 : w.length ≤ i + k
    · rw [if_pos h2] at e
      cases e
      refine h.coin hM hR fl bl ?_
      have hi' : w.length - k = i := by omega
      rw [hi'] at hBa
      refine hcan i _ _ (hwd i) (h.dom _ fl) (h.dom _ bl) ?_
      rw [hBa, ← hFa]
      exact hinvd i
    · rw [if_neg h2] at e
      have hil : i < w.length := by omega
      by_cases h3 : w.length = i + k + 1
      · rw [if_pos h3] at e
        cases e
        refine h.join hM hR.inv fl bl (hw.col hil) ?_
        rw [show w.length - k = i + 1 by omega] at hBa
        have hD : D (act (f a.toNat) (col (w.getD i 0))) := hM.cl _ _ (h.dom _ fl) (hw.col hil)
        refine hcan (i + 1) _ _ (hwd (i + 1)) hD (h.dom _ bl) ?_
        rw [hBa, ← hFa]
        have := hinvd (i + 1)
        rw [take_snocW hil, actW_app] at this
        exact this
      · rw [if_neg h3] at e
        cases e
theorem fillF_mp (hM : Mdl g rels D act) : ∀ (fuel : Nat) {s : St} {f : Nat → α}, Mp g D act s f → Good g lim s → ∀ {r : Nat}, r < s.t.length → s.rp r = r → ∀ {w : W}, LOk g w → actW act (f r) w = f r → ∀ s', fillF (2 * g) lim fuel s r w = some s' → ∃ f', Mp g D act s' f' ∧ ∀ x, x < s.t.length → f' x = f x
  | 0, _, _, _, _, _, _, _, _, _, _, s', e => by cases e
  | fuel + 1, s, f, hf, h, r, hr, hl, w, hw, hcl, s', e => by
    obtain ⟨a, b⟩ := scan_rest h.rest hr hl hw
    unfold fillF at e
    cases hsc : scanS (2 * g) s r w with
    | mk s2 o =>
      rw [hsc] at e
      cases o with
      | none =>
        simp only at e
        cases e
        exact ⟨f, scan_mp hM hf h.rest hr hl hw hcl _ hsc, fun _ _ => rfl⟩
      | some fc =>
        obtain ⟨u, c⟩ := fc
        simp only at e
        obtain ⟨-, h2, h3, h4, h5⟩ := b _ _ _ hsc
        split at e
        · cases e
        · rename_i hne
          obtain ⟨k1, k2⟩ := h.defn h2 h3 h4 h5 (by have := h.n2; omega)
          have hn := length_def (s := s) (2 * g) u c
          have hm := hf.defn hM h.rest.inv h2 h3
          obtain ⟨f', h6, h7⟩ := fillF_mp hM fuel hm k1 (r := r) (by omega) (by rw [rp_def_old h.rest.inv _ _ _ hr]; exact hl) hw (by rw [if_neg (by omega)]; exact hcl) s' e
          refine ⟨f', h6, fun x hx => ?_⟩
          rw [h7 x (by omega), if_neg (by omega)]
theorem fill_mp (hM : Mdl g rels D act) (hf : Mp g D act s f) (h : Good g lim s) {r : Nat} (hr : r < s.t.length) (hl : s.rp r = r) {w : W} (hw : LOk g w) (hcl : actW act (f r) w = f r) {s' : St} (e : fillS (2 * g) lim s r w = some s') : ∃ f', Mp g D act s' f' ∧ f' 0 = f 0 := by
  obtain ⟨f', h1, h2⟩ := fillF_mp hM _ hf h hr hl hw hcl s' e
  exact ⟨f', h1, h2 0 h.n1⟩
/-- an enumeration's state maps onto what satisfies its relators -/
theorem run_mp (hg : 1 ≤ lim) (hr : ∀ j, j < rels.length → LOk g (rels.getD j [])) (hs : ∀ j, j < sub.length → LOk g (sub.getD j [])) (hM : Mdl g rels D act) {p0 : α} (h0 : D p0) (hp : ∀ j, j < sub.length → actW act p0 (sub.getD j []) = p0) {s' : St} (e : runS (2 * g) lim rels sub = some s') : ∃ f, Mp g D act s' f ∧ f 0 = p0 := by
  have hst : (startS (2 * g)).t.length = 1 := by unfold startS; rw [length_add]; rfl
  have hS : Mp g D act (startS (2 * g)) (fun _ => p0) := ⟨fun _ _ => h0, fun _ _ => rfl, fun x c y hx hc hy => by
    have hx0 : x = nilS.t.length := by rw [hst] at hx; show x = 0; omega
    unfold Edge startS at hy
    rw [hx0, at_add_new _ _ hc] at hy
    omega⟩
  unfold runS at e
  cases hx : optTo (subS (2 * g) lim sub) sub.length (startS (2 * g)) with
  | none => rw [hx] at e; cases e
  | some x =>
    rw [hx] at e
    obtain ⟨hG, f1, hf1, hf2⟩ := optTo_inv (p := fun _ s => Good g lim s ∧ ∃ f, Mp g D act s f ∧ f 0 = p0) ⟨start_good hg, _, hS, rfl⟩ sub.length (fun i x y hi ⟨hx, f, hf, hf0⟩ hy => by
      have hl := rp_zero hx.rest hx.n1
      obtain ⟨a, b⟩ := fill_good hx hx.n1 hl (getD_all hs LOk.nil i) hy
      obtain ⟨f', h1, h2⟩ := fill_mp hM hf hx hx.n1 hl (getD_all hs LOk.nil i) (by rw [hf0]; exact hp i hi) hy
      exact ⟨a, f', h1, h2.trans hf0⟩) x hx
    obtain ⟨-, f2, hf3, hf4⟩ := optTo_inv (p := fun _ s => Good g lim s ∧ ∃ f, Mp g D act s f ∧ f 0 = p0) ⟨hG, f1, hf1, hf2⟩ lim (fun r x y _ ⟨hx, f, hf, hf0⟩ hy => by
      unfold rowsS at hy
      split at hy
      · rename_i hlt
        unfold rowS at hy
        cases hz : optTo (relS (2 * g) lim rels r) rels.length x with
        | none => rw [hz] at hy; cases hy
        | some z =>
          rw [hz] at hy
          obtain ⟨⟨hzG, hzE⟩, f3, hf3, hf4⟩ := optTo_inv (p := fun _ y => (Good g lim y ∧ Ext g x y) ∧ ∃ f, Mp g D act y f ∧ f 0 = p0) ⟨⟨hx, Ext.refl hx.rest⟩, f, hf, hf0⟩ rels.length (fun i y v hi ⟨⟨hy1, hy2⟩, f, hf, hf0⟩ hv => by
            have hry : r < y.t.length := Nat.lt_of_lt_of_le hlt hy2.n
            unfold relS at hv
            split at hv
            · rename_i hl
              obtain ⟨a, b⟩ := fill_good hy1 hry hl (getD_all hr LOk.nil i) hv
              obtain ⟨f', h1, h2⟩ := fill_mp hM hf hy1 hry hl (getD_all hr LOk.nil i) (hM.rel _ i (hf.dom r hry) hi) hv
              exact ⟨⟨a, hy2.trans hx.rest hy1.rest b⟩, f', h1, h2.trans hf0⟩
            · cases hv
              exact ⟨⟨hy1, hy2⟩, f, hf, hf0⟩) z hz
          obtain ⟨⟨hyG, hyE⟩, f5, hf5, hf6⟩ := optTo_inv (p := fun _ y => (Good g lim y ∧ Ext g z y) ∧ ∃ f, Mp g D act y f ∧ f 0 = p0) ⟨⟨hzG, Ext.refl hzG.rest⟩, f3, hf3, hf4⟩ (2 * g) (fun c y v hc ⟨⟨hy1, hy2⟩, f, hf, hf0⟩ hv => by
            have hry : r < y.t.length := Nat.lt_of_lt_of_le hlt (Nat.le_trans hzE.n hy2.n)
            unfold colS at hv
            split at hv
            · rename_i hl
              split at hv
              · cases hv
              · rename_i hne
                cases hv
                obtain ⟨a, b⟩ := hy1.defn hry hc hl.1 hl.2 (by have := hy1.n2; omega)
                exact ⟨⟨a, hy2.trans hzG.rest hy1.rest b⟩, _, hf.defn hM hy1.rest.inv hry hc, by rw [if_neg (by have := hy1.n1; omega)]; exact hf0⟩
            · cases hv
              exact ⟨⟨hy1, hy2⟩, f, hf, hf0⟩) y hy
          exact ⟨hyG, f5, hf5, hf6⟩
      · cases hy
        exact ⟨hx, f, hf, hf0⟩) s' e
    exact ⟨f2, hf3, hf4⟩
end
end Go.Proofs.Ct
namespace Go.Proofs.Ct
structure Coset (g : Nat) (rels sub : List W) (t : Tb) : Prop where
  full : Full g t
  std : std t 0 = some t
  rel : ∀ i, i < t.length → ∀ j, j < rels.length → Way t i (rels.getD j []) i
  subc : ∀ j, j < sub.length → Way t 0 (sub.getD j []) 0
  univ : ∀ {α : Type} {D : α → Prop} {act : α → Nat → α} {p0 : α}, Mdl g rels D act → D p0 → (∀ j, j < sub.length → actW act p0 (sub.getD j []) = p0) → ∃ φ : Nat → α, φ 0 = p0 ∧ (∀ x, x < t.length → D (φ x)) ∧ ∀ x c y, x < t.length → c < 2 * g → Edge t x c y → act (φ x) c = φ y
section
variable {g lim : Nat} {rels sub : List W} {t u : Tb} {φ ψ : Nat → Nat}
/-- where an edge of the table of the living comes from -/
theorem tab_from {s : St} (h : Rest g s) {i c k : Nat} (hc : c < 2 * g) (hi : i < (tabS s).length) (hp : ∀ x, x < s.t.length → 0 ≤ s.t.at (s.rp x) c) (he : Edge (tabS s) i c k) : ∃ x y, x < s.t.length ∧ y < s.t.length ∧ Edge s.t x c y ∧ (liv s).getD i 0 = x ∧ (liv s).getD k 0 = y := by
  rw [length_tab] at hi
  obtain ⟨h1, h2, h3⟩ := livTo_at (s := s) s.t.length i hi
  have h4 := hp _ h1
  rw [h2] at h4
  obtain ⟨y, hy⟩ := Int.eq_ofNat_of_zero_le h4
  have hE : Edge s.t ((livTo s s.t.length).getD i 0) c y := hy
  obtain ⟨-, h5, h6⟩ := h.live h1 hc hE
  have h7 := (tab_edge h h1 hc hE).2
  rw [h3] at h7
  have h8 : k = num s y := by unfold Edge at he h7; omega
  exact ⟨_, y, h1, h6, hE, rfl, by rw [h8]; exact (num_lt (n := s.t.length) h6 h5).2⟩
theorem coset_of_run (hg1 : 1 ≤ g) (hg16 : g ≤ 16) (hlim : lim ≤ 20000) (hl1 : 1 ≤ lim) (hr : ∀ j, j < rels.length → LOk g (rels.getD j [])) (hs : ∀ j, j < sub.length → LOk g (sub.getD j [])) {s : St} (e : runS (2 * g) lim rels sub = some s) :
    Coset g rels sub (stdT (tabS s) 0) ∧ stdE g (tabS s) 0 = (stdT (tabS s) 0, 0) ∧ (stdT (tabS s) 0).length = (liv s).length := by
  obtain ⟨hG, hC⟩ := run_good hl1 hr hs e
  obtain ⟨hRC, hSC⟩ := run_closed hl1 hr hs e
  obtain ⟨a, b, c⟩ := tab_good hg1 hg16 hlim hG hC
  have hF : Full g (tabS s) := ⟨a, b, c⟩
  have hS := hF.std_of a.n1
  refine ⟨⟨hS.full, hS.std, fun i hi j hj => ?_, fun j hj => ?_, fun {α D act p0} hM h0 hp => ?_⟩, (tab_std hg1 hg16 hlim hG hC).2, by rw [length_stdT, length_tab]⟩
  · obtain ⟨φ, hφ, h0φ, -⟩ := hS.there
    obtain ⟨ψ, hψ, h0ψ, -⟩ := hS.back
    -- every number is met
    have hw := tab_closed hG.rest hr hRC (ψ i) (hψ.lt i hi) j hj
    have h2 := hφ.way a (hr j hj) (hψ.lt i hi) hw
    -- φ (ψ i) = i: both are maps of the standard table to itself that fix 0
    have key : ∀ x, Reach g (stdT (tabS s) 0) 0 x → x < (stdT (tabS s) 0).length ∧ φ (ψ x) = x := fun x hx => by
      induction hx with
      | refl =>
        exact ⟨hS.full.good.n1, by rw [h0ψ, h0φ]⟩
      | @step y z c _ hc he ih =>
        obtain ⟨i1, i2⟩ := ih
        refine ⟨hS.full.good.elt i1 hc he, ?_⟩
        have h3 := hφ.edge _ _ _ (hψ.lt y i1) hc (hψ.edge y c z i1 hc he)
        rw [i2] at h3
        unfold Edge at he h3
        omega
    rw [(key i (hS.full.conn i hi)).2] at h2
    exact h2
  · obtain ⟨φ, hφ, h0, -⟩ := hS.there
    have hw := tab_closed0 hG.rest hG.n1 (hs j hj) (hSC j hj)
    have h2 := hφ.way a (hs j hj) a.n1 hw
    rwa [h0] at h2
  · obtain ⟨f, hf, hf0⟩ := run_mp hl1 hr hs hM h0 hp e
    obtain ⟨ψ, hψ, hψ0, -⟩ := hS.back
    have hlv : ∀ i, i < (tabS s).length → (liv s).getD i 0 < s.t.length := fun i hi => by
      rw [length_tab] at hi
      exact (livTo_at (s := s) s.t.length i hi).1
    refine ⟨fun x => f ((liv s).getD (ψ x) 0), ?_, fun x hx => hf.dom _ (hlv _ (hψ.lt x hx)), fun x c y hx hc he => ?_⟩
    · show f ((liv s).getD (ψ 0) 0) = p0
      rw [hψ0]
      have h1 := (num_lt (n := s.t.length) hG.n1 (rp_zero hG.rest hG.n1)).2
      have h2 : num s 0 = 0 := rfl
      rw [h2] at h1
      have h3 : (liv s).getD 0 0 = 0 := h1
      rw [h3]; exact hf0
    · have h1 := hψ.edge x c y hx hc he
      obtain ⟨x', y', h2, h3, h4, h5, h6⟩ := tab_from hG.rest hc (hψ.lt x hx) (fun x hx => hC x hx hx c hc) h1
      show act (f ((liv s).getD (ψ x) 0)) c = f ((liv s).getD (ψ y) 0)
      rw [h5, h6]
      exact hf.edge _ _ _ h2 hc h4
/-- where a letter leads -/
def nx (t : Tb) (x c : Nat) : Nat := (t.at x c).toNat
theorem Full.nx (h : Full g t) {x c : Nat} (hx : x < t.length) (hc : c < 2 * g) : Ct.nx t x c < t.length ∧ Edge t x c (Ct.nx t x c) := by
  obtain ⟨y, hy, he⟩ := h.edge hx hc
  have : Ct.nx t x c = y := by unfold Ct.nx; unfold Edge at he; omega
  rw [this]; exact ⟨hy, he⟩
theorem Full.way (h : Full g t) : ∀ {w : W} {x : Nat}, LOk g w → x < t.length → actW (Ct.nx t) x w < t.length ∧ Way t x w (actW (Ct.nx t) x w) := by
  intro w
  induction w with
  | nil => intro x _ hx; exact ⟨hx, rfl⟩
  | cons l w ih =>
    intro x hw hx
    obtain ⟨h1, h2⟩ := h.nx hx (col_ltL hw.cons.1)
    obtain ⟨h3, h4⟩ := ih hw.cons.2 h1
    exact ⟨h3, _, h2, h4⟩
theorem way_fun : ∀ {w : W} {x y z : Nat}, Way t x w y → Way t x w z → y = z := by
  intro w
  induction w with
  | nil => intro x y z h1 h2; have e1 : x = y := h1; have e2 : x = z := h2; omega
  | cons l w ih =>
    rintro x y z ⟨a, h1, h2⟩ ⟨b, h3, h4⟩
    have : a = b := by unfold Edge at h1 h3; omega
    rw [this] at h2
    exact ih h2 h4
theorem Full.actW_of (h : Full g t) {w : W} {x y : Nat} (hw : LOk g w) (hx : x < t.length) (h1 : Way t x w y) : actW (Ct.nx t) x w = y := way_fun (h.way hw hx).2 h1
theorem Full.mdl (h : Full g t) (hr : ∀ j, j < rels.length → LOk g (rels.getD j [])) (hc : ∀ i, i < t.length → ∀ j, j < rels.length → Way t i (rels.getD j []) i) : Mdl g rels (fun x => x < t.length) (Ct.nx t) :=
  ⟨fun _ _ hp hcc => (h.nx hp hcc).1, fun p c hp hcc => by
    obtain ⟨h1, h2⟩ := h.nx hp hcc
    have h3 := h.good.eback hp hcc h2
    obtain ⟨h4, h5⟩ := h.nx h1 (flp_lt2 hcc)
    unfold Edge at h3 h5
    omega, fun p i hp hi => h.actW_of (hr i hi) hp (hc p hp i hi)⟩
/-- maps that agree at 0 are equal -/
theorem Hm.unique (ht : Full g t) (h1 : Hm g t u φ) (h2 : Hm g t u ψ) (h0 : φ 0 = ψ 0) : ∀ x, x < t.length → φ x = ψ x := fun x hx => by
  have key : ∀ y, Reach g t 0 y → y < t.length ∧ φ y = ψ y := fun y hy => by
    induction hy with
    | refl => exact ⟨ht.good.n1, h0⟩
    | @step y z c _ hc he ih =>
      obtain ⟨i1, i2⟩ := ih
      refine ⟨ht.good.elt i1 hc he, ?_⟩
      have a := h1.edge _ _ _ i1 hc he
      have b := h2.edge _ _ _ i1 hc he
      rw [i2] at a
      unfold Edge at a b
      omega
  exact (key x (ht.conn x hx)).2
theorem Hm.comp {v : Tb} (h1 : Hm g t u φ) (h2 : Hm g u v ψ) : Hm g t v (fun x => ψ (φ x)) := ⟨fun x hx => h2.lt _ (h1.lt x hx), fun x c y hx hc he => h2.edge _ _ _ (h1.lt x hx) hc (h1.edge x c y hx hc he)⟩
theorem Hm.id : Hm g t t (fun x => x) := ⟨fun _ h => h, fun _ _ _ _ _ h => h⟩
theorem Hm.inj (ht : Full g t) (h1 : Hm g t u φ) (h2 : Hm g u t ψ) (h0 : ψ (φ 0) = 0) : ∀ x y, x < t.length → y < t.length → φ x = φ y → x = y := fun x y hx hy e => by
  have a : ψ (φ x) = x := Hm.unique ht (h1.comp h2) Hm.id h0 x hx
  have b : ψ (φ y) = y := Hm.unique ht (h1.comp h2) Hm.id h0 y hy
  rw [← a, ← b, e]
theorem len_le_of_sub : ∀ {a b : List Nat}, a.Nodup → (∀ x ∈ a, x ∈ b) → a.length ≤ b.length
  | [], _, _, _ => Nat.zero_le _
  | x :: a, b, hn, h => by
    obtain ⟨h1, h2⟩ := List.nodup_cons.1 hn
    have hx := h x (List.mem_cons_self ..)
    have := len_le_of_sub (a := a) (b := b.erase x) h2 fun y hy => by
      have hne : y ≠ x := fun e => h1 (e ▸ hy)
      exact (List.mem_erase_of_ne hne).2 (h y (List.mem_cons_of_mem _ hy))
    rw [List.length_erase_of_mem hx] at this
    have := List.length_pos_of_mem hx
    simp only [List.length_cons]
    omega
theorem nodup_map_on {f : Nat → Nat} : ∀ {l : List Nat}, (∀ x ∈ l, ∀ y ∈ l, f x = f y → x = y) → l.Nodup → (l.map f).Nodup
  | [], _, _ => List.nodup_nil
  | x :: l, h, hn => by
    obtain ⟨h1, h2⟩ := List.nodup_cons.1 hn
    rw [List.map_cons]
    refine List.nodup_cons.2 ⟨fun hm => ?_, nodup_map_on (fun a ha b hb => h a (List.mem_cons_of_mem _ ha) b (List.mem_cons_of_mem _ hb)) h2⟩
    obtain ⟨y, hy, he⟩ := List.mem_map.1 hm
    have := h y (List.mem_cons_of_mem _ hy) x (List.mem_cons_self ..) he
    exact h1 (this ▸ hy)
/-- how many cosets lie over a -/
def fib (φ : Nat → Nat) (n a : Nat) : Nat := (List.range n).countP fun x => decide (φ x = a)
theorem fib_le (ht : Full g t) (h : Hm g t u φ) {a b c : Nat} (hc : c < 2 * g) (he : Edge u a c b) : fib φ t.length a ≤ fib φ t.length b := by
  unfold fib
  rw [List.countP_eq_length_filter, List.countP_eq_length_filter]
  have hmem : ∀ x k, x ∈ (List.range t.length).filter (fun x => decide (φ x = k)) ↔ x < t.length ∧ φ x = k := fun x k => by simp
  have h1 : (((List.range t.length).filter fun x => decide (φ x = a)).map fun x => Ct.nx t x c).length ≤ ((List.range t.length).filter fun x => decide (φ x = b)).length := by
    refine len_le_of_sub (nodup_map_on (fun x hx y hy e => ?_) (List.Pairwise.filter _ List.nodup_range)) fun z hz => ?_
    · obtain ⟨x1, -⟩ := (hmem _ _).1 hx
      obtain ⟨y1, -⟩ := (hmem _ _).1 hy
      obtain ⟨k1, k2⟩ := ht.nx x1 hc
      obtain ⟨k3, k4⟩ := ht.nx y1 hc
      have m1 := ht.good.eback x1 hc k2
      have m2 := ht.good.eback y1 hc k4
      rw [e] at m1
      unfold Edge at m1 m2
      omega
    · obtain ⟨x, hx, rfl⟩ := List.mem_map.1 hz
      obtain ⟨x1, x2⟩ := (hmem _ _).1 hx
      obtain ⟨k1, k2⟩ := ht.nx x1 hc
      refine (hmem _ _).2 ⟨k1, ?_⟩
      have := h.edge _ _ _ x1 hc k2
      rw [x2] at this
      unfold Edge at this he
      omega
  rwa [List.length_map] at h1
theorem countP_lt_succ (φ : Nat → Nat) (m : Nat) : ∀ l : List Nat, l.countP (fun x => decide (φ x < m + 1)) = l.countP (fun x => decide (φ x < m)) + l.countP (fun x => decide (φ x = m))
  | [] => rfl
  | x :: l => by
    have ih := countP_lt_succ φ m l
    rw [List.countP_cons, List.countP_cons, List.countP_cons, ih]
    by_cases h1 : φ x < m
    · simp [h1, show φ x < m + 1 by omega, show φ x ≠ m by omega]; omega
    · by_cases h2 : φ x = m
      · simp [h2]; omega
      · simp [h1, h2, show ¬ φ x < m + 1 by omega]
/-- the cosets over each are as many -/
theorem Hm.dvd (ht : Full g t) (hu : Full g u) (h : Hm g t u φ) : ∃ k, t.length = u.length * k := by
  have heq : ∀ a, a < u.length → fib φ t.length a = fib φ t.length 0 := fun a ha => by
    have key : ∀ y, Reach g u 0 y → y < u.length ∧ fib φ t.length y = fib φ t.length 0 := fun y hy => by
      induction hy with
      | refl => exact ⟨hu.good.n1, rfl⟩
      | @step y z c _ hc he ih =>
        obtain ⟨i1, i2⟩ := ih
        refine ⟨hu.good.elt i1 hc he, ?_⟩
        have a := fib_le ht h hc he
        have b := fib_le ht h (flp_lt2 hc) (hu.good.eback i1 hc he)
        omega
    exact (key a (hu.conn a ha)).2
  have hsum : ∀ m, m ≤ u.length → (List.range t.length).countP (fun x => decide (φ x < m)) = m * fib φ t.length 0 := fun m => by
    induction m with
    | zero => intro _; simp
    | succ m ih =>
      intro hm
      rw [countP_lt_succ, ih (by omega), Nat.add_mul, Nat.one_mul, ← heq m (by omega)]
      rfl
  refine ⟨fib φ t.length 0, ?_⟩
  rw [← hsum u.length (Nat.le_refl _)]
  have : (List.range t.length).countP (fun x => decide (φ x < u.length)) = (List.range t.length).length := by
    rw [List.countP_eq_length]
    intro x hx
    have := h.lt x (by simpa using hx)
    simpa using this
  rw [this, List.length_range]
/-- Holds accepts the table -/
theorem Coset.holds (h : Coset g rels sub t) : holdsB rels sub t = true := by
  unfold holdsB
  rw [Bool.and_eq_true, Bool.and_eq_true]
  refine ⟨⟨?_, ?_⟩, ?_⟩
  · unfold complete
    rw [Bool.not_eq_true', List.any_eq_false]
    intro row hrow hc
    obtain ⟨r, hr, rfl⟩ := List.mem_iff_getElem.1 hrow
    have h1 : (-1 : Int) ∈ t[r] := by simpa using hc
    obtain ⟨c, hc, he⟩ := List.mem_iff_getElem.1 h1
    have e : t.row r = t[r] := by unfold Tb.row; rw [List.getD_eq_getElem?_getD, List.getElem?_eq_getElem hr]; rfl
    have h2 := h.full.pos r hr c (by rw [← h.full.good.len r hr, e]; exact hc)
    unfold Tb.at at h2
    rw [e, List.getD_eq_getElem?_getD, List.getElem?_eq_getElem hc, he] at h2
    simp at h2
  · unfold staysB
    rw [List.all_eq_true]
    intro w hw
    obtain ⟨j, hj, rfl⟩ := List.mem_iff_getElem.1 hw
    have h1 := h.subc j hj
    rw [List.getD_eq_getElem?_getD, List.getElem?_eq_getElem hj] at h1
    have := leads_iff.2 h1
    simpa using this
  · rw [List.all_eq_true]
    intro r hr
    have hr' : r < t.length := by simpa using hr
    unfold staysB
    rw [List.all_eq_true]
    intro w hw
    obtain ⟨j, hj, rfl⟩ := List.mem_iff_getElem.1 hw
    have h1 := h.rel r hr' j hj
    rw [List.getD_eq_getElem?_getD, List.getElem?_eq_getElem hj] at h1
    have := leads_iff.2 h1
    simpa using this
end
end Go.Proofs.Ct
namespace Go.Proofs.Ct
theorem col_letter (c : Nat) : col (letter c) = c := by
  unfold col letter
  split <;> split <;> omega
def RW (t : Tb) (out : List W) : Prop := ∀ j, j < out.length → Way t 0 (out.getD j []) j
section
variable {g : Nat} {t : Tb}
theorem repCol_len (r c : Nat) (out : List W) : out.length ≤ (repCol t r c out).length := by
  unfold repCol
  split
  · simp
  · exact Nat.le_refl _
theorem RW.col {out : List W} (h : RW t out) {r c : Nat} (hr : r < out.length) : RW t (repCol t r c out) := by
  unfold repCol
  split
  · rename_i he
    intro j hj
    rcases Nat.lt_or_ge j out.length with h1 | h1
    · have : (out ++ [out.getD r [] ++ [letter c]]).getD j [] = out.getD j [] := by simp [List.getD_eq_getElem?_getD, List.getElem?_append_left h1]
      rw [this]
      exact h j h1
    · obtain rfl : j = out.length := by simp at hj; omega
      have : (out ++ [out.getD r [] ++ [letter c]]).getD out.length [] = out.getD r [] ++ [letter c] := by simp [List.getD_eq_getElem?_getD]
      rw [this]
      refine way_app.2 ⟨r, h r hr, way_one.2 ?_⟩
      unfold Edge
      rw [col_letter]
      exact he
  · exact h
theorem RW.row {out : List W} (h : RW t out) {r : Nat} (hr : r < out.length) : RW t (repRow t r out) :=
  (foldTo_inv (p := fun _ out => RW t out ∧ r < out.length) ⟨h, hr⟩ _ fun c x _ ⟨h1, h2⟩ => ⟨h1.col h2, Nat.lt_of_lt_of_le h2 (repCol_len r c x)⟩).1
theorem reps_ok (h : Full g t) (j : Nat) : LOk g ((reps t).getD j []) := reps_letter h.good j
theorem reps_len (h : Full g t) (hs : std t 0 = some t) : (reps t).length = t.length := (reps_length h.good (std_iff hs)).1
end
end Go.Proofs.Ct
namespace Go.Proofs.Ct
section
variable {g : Nat} {rels sub : List W} {t u : Tb}
theorem LOk.app {a b : W} (ha : LOk g a) (hb : LOk g b) : LOk g (a ++ b) := fun x hx => (List.mem_append.1 hx).elim (ha x) (hb x)
theorem Full.way_inv (h : Full g t) : ∀ {w : W} {x y : Nat}, LOk g w → x < t.length → Way t x w y → Way t y (Ct.inv w) x := by
  intro w
  induction w with
  | nil => intro x y _ _ h; exact Eq.symm h
  | cons l w ih =>
    rintro x y hw hx ⟨z, h1, h2⟩
    rw [inv_cons]
    refine way_app.2 ⟨z, ih hw.cons.2 (h.good.elt hx (col_ltL hw.cons.1) h1) h2, way_one.2 ?_⟩
    rw [col_inv hw.cons.1.2.2]
    exact h.good.eback hx (col_ltL hw.cons.1) h1
end
end Go.Proofs.Ct
namespace Go.Proofs.Ct
def pushL (st w : W) : W := w.foldl push st
theorem pushL_append (st a b : W) : pushL st (a ++ b) = pushL (pushL st a) b := List.foldl_append ..
theorem pushL_one (st : W) (x : Int) : pushL st [x] = push st x := rfl
theorem take_snoc0 {w : W} {k : Nat} (h : k < w.length) : w.take (k + 1) = w.take k ++ [w.getD k 0] := by
  rw [List.take_succ_eq_append_getElem h, List.getD_eq_getElem?_getD, List.getElem?_eq_getElem h]; rfl
theorem redTo_fold (w : W) : ∀ k, k ≤ w.length → redTo w k = pushL [] (w.take k)
  | 0, _ => rfl
  | k + 1, h => by
    show push (redTo w k) (w.getD k 0) = _
    rw [redTo_fold w k (by omega), take_snoc0 (by omega), pushL_append]
    rfl
theorem red_fold (w : W) : red w = pushL [] w := by
  unfold red
  rw [redTo_fold w _ (Nat.le_refl _), List.take_length]
theorem push_nil (x : Int) : push [] x = [x] := rfl
theorem push_snoc (st : W) (y x : Int) : push (st ++ [y]) x = if opp y x = true then st else st ++ [y] ++ [x] := by
  unfold push
  have h1 : (st ++ [y]).length - 1 = st.length := by simp
  rw [h1]
  have h2 : (st ++ [y]).getD st.length 0 = y := by simp [List.getD_eq_getElem?_getD]
  rw [h2]
  have h3 : (st ++ [y]).take st.length = st := by simp
  rw [h3]
  by_cases h : opp y x = true
  · rw [if_pos h, if_pos (by simp [h])]
  · rw [if_neg h, if_neg (by simp [h])]
theorem opp_iff {x y : Int} : opp x y = true ↔ x ≠ 0 ∧ y = -x := by
  unfold opp
  simp
/-- no two neighbours cancel -/
def Rd (st : W) : Prop := ∀ a x y b, st = a ++ [x] ++ [y] ++ b → opp x y = false
theorem Rd.nil : Rd [] := fun a x y b h => by simp at h
theorem Rd.one (x : Int) : Rd [x] := fun a p q b h => by
  have := congrArg List.length h
  simp at this
  omega
theorem Rd.init {st : W} {y : Int} (h : Rd (st ++ [y])) : Rd st := fun a p q b e => h a p q (b ++ [y]) (by rw [e]; simp)
theorem Rd.last {st : W} {x y : Int} (h : Rd (st ++ [x] ++ [y])) : opp x y = false := h st x y [] (by simp)
theorem Rd.snoc {st : W} {x y : Int} (h : Rd (st ++ [x])) (hn : opp x y = false) : Rd (st ++ [x] ++ [y]) := fun a p q b e => by
  rcases List.eq_nil_or_concat b with rfl | ⟨b', z, rfl⟩
  · rw [List.append_nil] at e
    have h1 := List.append_inj' e rfl
    have h2 := List.append_inj' h1.1 rfl
    have e1 := List.cons.inj h1.2
    have e2 := List.cons.inj h2.2
    rw [← e1.1, ← e2.1]
    exact hn
  · rw [List.concat_eq_append, ← List.append_assoc] at e
    have h1 := List.append_inj' e rfl
    exact h a p q b' h1.1
theorem Rd.push {st : W} (h : Rd st) (x : Int) : Rd (push st x) := by
  rcases List.eq_nil_or_concat st with rfl | ⟨s, y, rfl⟩
  · exact Rd.one x
  · rw [List.concat_eq_append] at h ⊢
    rw [push_snoc]
    split
    · exact h.init
    · rename_i hn
      exact h.snoc (by simpa using hn)
theorem Rd.pushL {st : W} (h : Rd st) : ∀ (w : W), Rd (pushL st w) := fun w => by
  induction w generalizing st with
  | nil => exact h
  | cons x w ih => exact ih (h.push x)
theorem push_back {st : W} (h : Rd st) {x : Int} (hx : x ≠ 0) : push (push st x) (-x) = st := by
  rcases List.eq_nil_or_concat st with rfl | ⟨s, y, rfl⟩
  · rw [push_nil, ← List.nil_append [x], push_snoc, if_pos (opp_iff.2 ⟨hx, rfl⟩)]
  · rw [List.concat_eq_append] at h ⊢
    rw [push_snoc]
    by_cases ho : opp y x = true
    · rw [if_pos ho]
      obtain ⟨hy, rfl⟩ := opp_iff.1 ho
      rw [Int.neg_neg]
      rcases List.eq_nil_or_concat s with rfl | ⟨s', z, rfl⟩
      · rfl
      · rw [List.concat_eq_append] at h ⊢
        rw [push_snoc, if_neg (by rw [h.last]; simp)]
    · rw [if_neg ho, push_snoc, if_pos (opp_iff.2 ⟨hx, rfl⟩)]
/-- no letter is 0 -/
def Nz (w : W) : Prop := ∀ x ∈ w, x ≠ 0
theorem Nz.app {a b : W} (ha : Nz a) (hb : Nz b) : Nz (a ++ b) := fun x hx => (List.mem_append.1 hx).elim (ha x) (hb x)
theorem Nz.left {a b : W} (h : Nz (a ++ b)) : Nz a := fun x hx => h x (List.mem_append.2 (.inl hx))
theorem Nz.right {a b : W} (h : Nz (a ++ b)) : Nz b := fun x hx => h x (List.mem_append.2 (.inr hx))
theorem Nz.red {a : W} (h : Nz a) : Nz (red a) := fun x hx => h x (red_mem hx)
theorem Nz.inv {a : W} (h : Nz a) : Nz (inv a) := fun x hx => by
  have := h _ (mem_inv hx)
  omega
theorem Nz.nil : Nz [] := fun x hx => by cases hx
theorem Nz.one {x : Int} (h : x ≠ 0) : Nz [x] := fun y hy => by
  rw [List.mem_singleton.1 hy]; exact h
theorem red_snoc (b : W) (x : Int) : red (b ++ [x]) = push (red b) x := by rw [red_fold, red_fold, pushL_append]; rfl
theorem pushL_red {st : W} (h : Rd st) : ∀ (n : Nat) (b : W), b.length = n → Nz b → pushL st (red b) = pushL st b
  | 0, b, hb, _ => by rw [List.length_eq_zero_iff.1 hb]; rfl
  | n + 1, b, hb, hz => by
    rcases List.eq_nil_or_concat b with rfl | ⟨c, x, rfl⟩
    · cases hb
    · rw [List.concat_eq_append] at hb hz ⊢
      have ih := pushL_red h n c (by simpa using hb) hz.left
      rw [red_snoc, pushL_append st c, pushL_one]
      rcases List.eq_nil_or_concat (red c) with hr | ⟨d, y, hr⟩
      · rw [hr] at ih ⊢
        rw [← ih]
        rfl
      · rw [List.concat_eq_append] at hr
        rw [hr] at ih ⊢
        rw [← ih, push_snoc]
        by_cases ho : opp y x = true
        · rw [if_pos ho]
          obtain ⟨hy, rfl⟩ := opp_iff.1 ho
          rw [pushL_append, pushL_one, push_back (h.pushL d) hy]
        · rw [if_neg ho, pushL_append]
          rfl
theorem pushL_red' {st : W} (h : Rd st) {b : W} (hz : Nz b) : pushL st (red b) = pushL st b := pushL_red h _ b rfl hz
theorem red_red {a : W} (h : Nz a) : red (red a) = red a := by rw [red_fold, pushL_red' Rd.nil h, ← red_fold]
theorem red_left {a : W} (b : W) (h : Nz a) : red (red a ++ b) = red (a ++ b) := by
  rw [red_fold, red_fold (a ++ b), pushL_append, pushL_append, pushL_red' Rd.nil h]
theorem red_right (a : W) {b : W} (h : Nz b) : red (a ++ red b) = red (a ++ b) := by
  rw [red_fold, red_fold (a ++ b), pushL_append, pushL_append, pushL_red' (Rd.nil.pushL a) h]
/-- equal in the free group -/
def Fe (a b : W) : Prop := red a = red b
theorem Fe.rfl' {a : W} : Fe a a := rfl
theorem Fe.symm {a b : W} (h : Fe a b) : Fe b a := Eq.symm h
theorem Fe.trans {a b c : W} (h : Fe a b) (k : Fe b c) : Fe a c := Eq.trans h k
theorem Fe.app {a b c d : W} (h : Fe a b) (k : Fe c d) (ha : Nz a) (hb : Nz b) (hc : Nz c) (hd : Nz d) : Fe (a ++ c) (b ++ d) := by
  show red (a ++ c) = red (b ++ d)
  rw [← red_left c ha, ← red_right _ hc, h, k, red_right _ hd, red_left d hb]
theorem fe_red {a : W} (h : Nz a) : Fe (red a) a := red_red h
theorem LOk.nz {g : Nat} {w : W} (h : LOk g w) : Nz w := fun x hx => (h x hx).2.2
theorem fe_pair {x : Int} (h : x ≠ 0) : Fe [x, -x] [] := by
  show red ([x] ++ [-x]) = []
  rw [red_snoc]
  show push (push [] x) (-x) = []
  exact push_back Rd.nil h
theorem fe_inv : ∀ {a : W}, Nz a → Fe (a ++ inv a) []
  | [], _ => rfl
  | x :: a, h => by
    have hx : x ≠ 0 := h x (by simp)
    have ha : Nz a := fun y hy => h y (by simp [hy])
    rw [inv_cons]
    have ih := fe_inv ha
    have e : x :: a ++ (inv a ++ [-x]) = [x] ++ (a ++ inv a) ++ [-x] := by simp
    rw [e]
    have h1 : Fe ([x] ++ (a ++ inv a)) [x] := Fe.app (b := [x]) (d := []) Fe.rfl' ih (Nz.one hx) (Nz.one hx) (ha.app ha.inv) Nz.nil
    have h2 := h1.app (Fe.rfl' (a := [-x])) ((Nz.one hx).app (ha.app ha.inv)) (Nz.one hx) (Nz.one (by omega)) (Nz.one (by omega))
    exact h2.trans (fe_pair hx)
theorem fe_inv' {a : W} (h : Nz a) : Fe (inv a ++ a) [] := by
  have := fe_inv h.inv
  rwa [inv_inv] at this
theorem Fe.inv {a b : W} (h : Fe a b) (ha : Nz a) (hb : Nz b) : Fe (Ct.inv a) (Ct.inv b) := by
  -- inv a = inv a b inv b = inv a a inv b = inv b
  have h1 : Fe (Ct.inv a ++ (b ++ Ct.inv b)) (Ct.inv a ++ []) := Fe.app Fe.rfl' (fe_inv hb) ha.inv ha.inv (hb.app hb.inv) Nz.nil
  rw [List.append_nil] at h1
  have h2 : Fe (Ct.inv a ++ a ++ Ct.inv b) (Ct.inv a ++ b ++ Ct.inv b) := Fe.app (Fe.app Fe.rfl' h ha.inv ha.inv ha hb) Fe.rfl' (ha.inv.app ha) (ha.inv.app hb) hb.inv hb.inv
  have h3 : Fe (Ct.inv a ++ a ++ Ct.inv b) ([] ++ Ct.inv b) := Fe.app (fe_inv' ha) Fe.rfl' (ha.inv.app ha) Nz.nil hb.inv hb.inv
  rw [List.append_assoc] at h2
  rw [List.append_assoc (Ct.inv a) b] at h2
  rw [List.append_assoc] at h3
  exact (h1.symm.trans h2.symm).trans h3
theorem mulW_fe (a b : W) (ha : Nz a) (hb : Nz b) : Fe (mulW a b) (a ++ b) := fe_red (ha.app hb)
theorem invW_fe (a : W) (ha : Nz a) : Fe (invW a) (inv a) := fe_red ha.inv
end Go.Proofs.Ct
namespace Go.Proofs.Ct
section
variable {g : Nat} {t : Tb} {R : List W}
/-- the letters that one letter is rewritten to -/
def oneL (t : Tb) (R : List W) (g r : Nat) (x : Int) : W := if letN t R g r x ≠ 0 then [letN t R g r x] else []
/-- what a word is rewritten to, not yet reduced -/
def rl (t : Tb) (R : List W) (g : Nat) : Nat → W → W
  | _, [] => []
  | r, x :: w => oneL t R g r x ++ rl t R g (nx t r (col x)) w
theorem stepW_nx (r : Nat) (x : Int) : stepW t r x = nx t r (col x) := rfl
theorem rl_app (r : Nat) (u v : W) : rl t R g r (u ++ v) = rl t R g r u ++ rl t R g (actW (nx t) r u) v := by
  induction u generalizing r with
  | nil => rfl
  | cons x u ih =>
    show oneL t R g r x ++ rl t R g _ (u ++ v) = (oneL t R g r x ++ rl t R g _ u) ++ _
    rw [ih, List.append_assoc]
    rfl
theorem rl_one (r : Nat) (x : Int) : rl t R g r [x] = oneL t R g r x := List.append_nil _
theorem actW_one (r : Nat) (x : Int) : actW (nx t) r [x] = nx t r (col x) := rfl
theorem rwTo_rl (r : Nat) (w : W) : ∀ k, k ≤ w.length → rwTo t R g w r k = (actW (nx t) r (w.take k), rl t R g r (w.take k))
  | 0, _ => rfl
  | k + 1, h => by
    have ih := rwTo_rl r w k (by omega)
    have e : rwTo t R g w r (k + 1) = (stepW t (rwTo t R g w r k).1 (w.getD k 0), if letN t R g (rwTo t R g w r k).1 (w.getD k 0) ≠ 0 then (rwTo t R g w r k).2 ++ [letN t R g (rwTo t R g w r k).1 (w.getD k 0)] else (rwTo t R g w r k).2) := rfl
    rw [e, ih, take_snoc0 (by omega), actW_app, rl_app, rl_one]
    unfold oneL
    congr 1
    show (if letN t R g (actW (nx t) r (w.take k)) (w.getD k 0) ≠ 0 then rl t R g r (w.take k) ++ [letN t R g (actW (nx t) r (w.take k)) (w.getD k 0)] else rl t R g r (w.take k)) = _
    split
    · rfl
    · rw [List.append_nil]
theorem rwW_rl (r : Nat) (w : W) : rwW t R g r w = red (rl t R g r w) := by
  unfold rwW
  rw [rwTo_rl r w _ (Nat.le_refl _), List.take_length]
theorem oneL_nz (r : Nat) (x : Int) : Nz (oneL t R g r x) := by
  unfold oneL
  split
  · rename_i h
    exact Nz.one h
  · exact Nz.nil
theorem rl_nz (r : Nat) (w : W) : Nz (rl t R g r w) := by
  induction w generalizing r with
  | nil => exact Nz.nil
  | cons x w ih => exact (oneL_nz r x).app (ih _)
/-- there and back -/
theorem letN_back (ht : Full g t) {r : Nat} (hr : r < t.length) {x : Int} (hx : -(g : Int) ≤ x ∧ x ≤ g ∧ x ≠ 0) : letN t R g (nx t r (col x)) (-x) = -letN t R g r x := by
  have hc : col x < 2 * g := col_ltL hx
  obtain ⟨h1, h2⟩ := ht.nx hr hc
  have h3 := ht.good.eback hr hc h2
  unfold letN
  by_cases h : 0 < x
  · rw [if_neg (by omega : ¬ 0 < -x), if_pos h]
    have e : col (-x) = flp (col x) := by unfold col flp; repeat (first | omega | split)
    have e2 : stepW t (nx t r (col x)) (-x) = r := by
      rw [stepW_nx, e]
      have : t.at (nx t r (col x)) (flp (col x)) = (r : Int) := h3
      unfold nx at this ⊢
      rw [this]
      rfl
    rw [e2]
    congr 3
    omega
  · rw [if_pos (by omega : 0 < -x), if_neg h, Int.neg_neg, stepW_nx]
theorem oneL_back (ht : Full g t) {r : Nat} (hr : r < t.length) {x : Int} (hx : -(g : Int) ≤ x ∧ x ≤ g ∧ x ≠ 0) : oneL t R g (nx t r (col x)) (-x) = inv (oneL t R g r x) := by
  unfold oneL
  rw [letN_back ht hr hx]
  by_cases h : letN t R g r x = 0
  · rw [h]; rfl
  · rw [if_pos (by omega), if_pos h]; rfl
theorem nx_back (ht : Full g t) {r : Nat} (hr : r < t.length) {x : Int} (hx : -(g : Int) ≤ x ∧ x ≤ g ∧ x ≠ 0) : nx t (nx t r (col x)) (col (-x)) = r := by
  have hc : col x < 2 * g := col_ltL hx
  obtain ⟨h1, h2⟩ := ht.nx hr hc
  have h3 := ht.good.eback hr hc h2
  have e : col (-x) = flp (col x) := by unfold col flp; repeat (first | omega | split)
  have : t.at (nx t r (col x)) (flp (col x)) = (r : Int) := h3
  rw [e]
  unfold nx at this ⊢
  rw [this]
  rfl
theorem rl_inv (ht : Full g t) : ∀ {w : W} {r : Nat}, LOk g w → r < t.length → rl t R g (actW (nx t) r w) (inv w) = inv (rl t R g r w) ∧ actW (nx t) (actW (nx t) r w) (inv w) = r
  | [], r, _, _ => ⟨rfl, rfl⟩
  | x :: w, r, hw, hr => by
    obtain ⟨hx, hw'⟩ := hw.cons
    have h1 := (ht.nx hr (col_ltL hx)).1
    obtain ⟨i1, i2⟩ := rl_inv ht hw' h1
    have e : actW (nx t) r (x :: w) = actW (nx t) (nx t r (col x)) w := rfl
    rw [inv_cons, e, rl_app, actW_app, i1, i2, rl_one, actW_one, oneL_back ht hr hx, nx_back ht hr hx]
    refine ⟨?_, rfl⟩
    show _ = inv (oneL t R g r x ++ rl t R g (nx t r (col x)) w)
    rw [inv_app]
/-- rewriting respects free equality -/
theorem rl_red (ht : Full g t) {r : Nat} (hr : r < t.length) : ∀ (n : Nat) (u : W), u.length = n → LOk g u → Fe (rl t R g r (red u)) (rl t R g r u) ∧ actW (nx t) r (red u) = actW (nx t) r u
  | 0, u, hu, _ => by rw [List.length_eq_zero_iff.1 hu]; exact ⟨rfl, rfl⟩
  | n + 1, u, hu, hz => by
    rcases List.eq_nil_or_concat u with rfl | ⟨c, x, rfl⟩
    · cases hu
    · rw [List.concat_eq_append] at hu hz ⊢
      have hc : LOk g c := fun y hy => hz y (List.mem_append.2 (.inl hy))
      have hx : -(g : Int) ≤ x ∧ x ≤ g ∧ x ≠ 0 := hz x (by simp)
      obtain ⟨i1, i2⟩ := rl_red ht hr n c (by simpa using hu) hc
      rw [red_snoc, rl_app, actW_app, rl_one, actW_one]
      have hd : LOk g (red c) := fun y hy => hc y (red_mem hy)
      have plain : Fe (rl t R g r (red c ++ [x])) (rl t R g r c ++ oneL t R g (actW (nx t) r c) x) ∧ actW (nx t) r (red c ++ [x]) = nx t (actW (nx t) r c) (col x) := by
        rw [rl_app, actW_app, rl_one, actW_one, i2]
        exact ⟨i1.app Fe.rfl' (rl_nz _ _) (rl_nz _ _) (oneL_nz _ _) (oneL_nz _ _), rfl⟩
      rcases List.eq_nil_or_concat (red c) with hr' | ⟨d, y, hr'⟩
      · rw [hr'] at plain ⊢
        exact plain
      · rw [List.concat_eq_append] at hr'
        rw [hr'] at plain hd ⊢
        rw [push_snoc]
        by_cases ho : opp y x = true
        · rw [if_pos ho]
          obtain ⟨hy, rfl⟩ := opp_iff.1 ho
          have hd' : LOk g d := fun z hz => hd z (List.mem_append.2 (.inl hz))
          have hy' : -(g : Int) ≤ y ∧ y ≤ g ∧ y ≠ 0 := hd y (by simp)
          have hl := (ht.way hd' hr).1
          rw [List.append_assoc, rl_app, actW_app] at plain
          have e1 : rl t R g (actW (nx t) r d) ([y] ++ [-y]) = oneL t R g (actW (nx t) r d) y ++ inv (oneL t R g (actW (nx t) r d) y) := by
            rw [rl_app, rl_one, rl_one, actW_one, oneL_back ht hl hy']
          have e2 : actW (nx t) (actW (nx t) r d) ([y] ++ [-y]) = actW (nx t) r d := by
            rw [actW_app, actW_one, actW_one, nx_back ht hl hy']
          rw [e1, e2] at plain
          refine ⟨Fe.trans ?_ plain.1, plain.2⟩
          have := Fe.app (a := rl t R g r d) Fe.rfl' (fe_inv (oneL_nz (t := t) (R := R) (g := g) (actW (nx t) r d) y)).symm (rl_nz _ _) (rl_nz _ _) Nz.nil ((oneL_nz _ _).app (oneL_nz _ _).inv)
          rwa [List.append_nil] at this
        · rw [if_neg ho]
          exact plain
theorem rw_red (ht : Full g t) {r : Nat} (hr : r < t.length) {u v : W} (hu : LOk g u) (hv : LOk g v) (h : Fe u v) : rwW t R g r u = rwW t R g r v := by
  rw [rwW_rl, rwW_rl]
  have h1 := (rl_red (R := R) ht hr _ u rfl hu).1
  have h2 := (rl_red (R := R) ht hr _ v rfl hv).1
  have h3 : red u = red v := h
  rw [h3] at h1
  exact h1.symm.trans h2
/-- how a representative comes from an elder one -/
def Grown (g : Nat) (t : Tb) (out : List W) : Prop := ∀ j, j < out.length → (j = 0 ∧ out.getD j [] = []) ∨ ∃ i c, i < j ∧ c < 2 * g ∧ t.at i c = (j : Int) ∧ out.getD j [] = out.getD i [] ++ [letter c]
theorem Grown.col {out : List W} (h : Grown g t out) {r c : Nat} (hr : r < out.length) (hc : c < 2 * g) : Grown g t (repCol t r c out) := by
  unfold repCol
  split
  · rename_i he
    intro j hj
    rcases Nat.lt_or_ge j out.length with h1 | h1
    · have e : ∀ i, i < out.length → (out ++ [out.getD r [] ++ [letter c]]).getD i [] = out.getD i [] := fun i hi => by simp [List.getD_eq_getElem?_getD, List.getElem?_append_left hi]
      rw [e j h1]
      rcases h j h1 with h2 | ⟨i, c', h2, h3, h4, h5⟩
      · exact .inl h2
      · exact .inr ⟨i, c', h2, h3, h4, by rw [e i (by omega)]; exact h5⟩
    · obtain rfl : j = out.length := by simp at hj; omega
      refine .inr ⟨r, c, hr, hc, he, ?_⟩
      have e1 : (out ++ [out.getD r [] ++ [letter c]]).getD out.length [] = out.getD r [] ++ [letter c] := by simp [List.getD_eq_getElem?_getD]
      have e2 : (out ++ [out.getD r [] ++ [letter c]]).getD r [] = out.getD r [] := by simp [List.getD_eq_getElem?_getD, List.getElem?_append_left hr]
      rw [e1, e2]
  · exact h
theorem Grown.row {out : List W} (h : Grown g t out) {r : Nat} (hr : r < out.length) (hl : (t.row r).length = 2 * g) : Grown g t (repRow t r out) :=
  (foldTo_inv (p := fun _ out => Grown g t out ∧ r < out.length) ⟨h, hr⟩ _ fun c x hc ⟨h1, h2⟩ => ⟨h1.col h2 (by omega), Nat.lt_of_lt_of_le h2 (repCol_len r c x)⟩).1
theorem reps_grown (h : Full g t) (hs : std t 0 = some t) : Grown g t (reps t) := by
  have hS := std_iff hs
  have key : ∀ r, r ≤ t.length → Grown g t (foldTo (repRow t) r [[]]) := fun r => by
    induction r with
    | zero =>
      intro _ j hj
      obtain rfl : j = 0 := by simp [foldTo] at hj; omega
      exact .inl ⟨rfl, rfl⟩
    | succ r ih =>
      intro hr
      obtain ⟨m, h1, -, h2⟩ := rep_at h.good hS r (by omega)
      exact (ih (by omega)).row (by rw [h2.ol]; exact h1 (by omega)) (h.good.len r (by omega))
  exact key t.length (Nat.le_refl _)
/-- the edge by which a representative came is in the tree -/
theorem oneL_tree (ht : Full g t) {i c j : Nat} (hi : i < t.length) (hc : c < 2 * g) (he : t.at i c = (j : Int)) (hR : R.getD j [] = R.getD i [] ++ [letter c]) : oneL t R g i (letter c) = [] := by
  have hj : nx t i c = j := by unfold nx; rw [he]; rfl
  have hl := letter_range hc
  have z : letN t R g i (letter c) = 0 := by
    unfold letN
    by_cases h : c % 2 = 1
    · have e : letter c = -((c / 2 : Nat) + 1) := by unfold letter; rw [if_pos h]
      rw [if_neg (by omega), stepW_nx, col_letter, hj]
      have e2 : (-letter c - 1).toNat = c / 2 := by omega
      rw [e2]
      have hn : nt t R j (c / 2) = false := by
        have hd : dest t j (c / 2) = i := by
          have h3 := ht.good.eback hi hc he
          have e3 : flp c = 2 * (c / 2) := by unfold flp; rw [if_neg (by omega)]; omega
          unfold dest
          have h4 : t.at j (flp c) = (i : Int) := h3
          rw [e3] at h4
          rw [h4]
          rfl
        unfold nt
        rw [hd, hR, e]
        simp
      unfold number
      rw [if_neg (by simp [hn])]
      rfl
    · have e : letter c = (c / 2 : Nat) + 1 := by unfold letter; rw [if_neg h]
      rw [if_pos (by omega)]
      have e2 : (letter c - 1).toNat = c / 2 := by omega
      rw [e2]
      have hn : nt t R i (c / 2) = false := by
        have hd : dest t i (c / 2) = j := by
          unfold dest
          rw [show 2 * (c / 2) = c by omega, he]
          rfl
        unfold nt
        rw [hd, hR, e]
        simp
      unfold number
      rw [if_neg (by simp [hn])]
  unfold oneL
  rw [if_neg (by simpa using z)]
/-- a representative is rewritten to nothing -/
theorem rl_rep (ht : Full g t) (hs : std t 0 = some t) : ∀ j, j < t.length → rl t (reps t) g 0 ((reps t).getD j []) = [] ∧ actW (nx t) 0 ((reps t).getD j []) = j := by
  intro j
  induction j using Nat.strongRecOn with
  | _ j ih =>
    intro hj
    have hlen := reps_len ht hs
    rcases reps_grown ht hs j (by omega) with ⟨rfl, h2⟩ | ⟨i, c, h1, h2, h3, h4⟩
    · rw [h2]
      exact ⟨rfl, rfl⟩
    · obtain ⟨i1, i2⟩ := ih i h1 (by omega)
      rw [h4, rl_app, actW_app, i1, i2, rl_one, actW_one, col_letter, oneL_tree ht (by omega) h2 h3 h4]
      refine ⟨rfl, ?_⟩
      unfold nx
      rw [h3]
      rfl
/-- the word that a word in Schreier generators names, not yet reduced -/
def word1 (G : List W) (x : Int) : W := if 0 < x then G.getD (x - 1).toNat [] else inv (G.getD (-x - 1).toNat [])
def wordS (G : List W) (w : W) : W := w.flatMap (word1 G)
theorem wordS_app (G : List W) (u v : W) : wordS G (u ++ v) = wordS G u ++ wordS G v := List.flatMap_append
theorem wordS_one (G : List W) (x : Int) : wordS G [x] = word1 G x := List.append_nil _
theorem wordS_nz {G : List W} (hG : ∀ j, Nz (G.getD j [])) (w : W) : Nz (wordS G w) := fun y hy => by
  obtain ⟨x, -, h⟩ := List.mem_flatMap.1 hy
  unfold word1 at h
  split at h
  · exact hG _ y h
  · exact (hG _).inv y h
theorem word1_neg (G : List W) {x : Int} (hx : x ≠ 0) : word1 G (-x) = inv (word1 G x) := by
  unfold word1
  by_cases h : 0 < x
  · rw [if_neg (by omega), if_pos h, Int.neg_neg]
  · rw [if_pos (by omega), if_neg h, inv_inv]
theorem wordS_inv (G : List W) : ∀ {w : W}, Nz w → wordS G (inv w) = inv (wordS G w)
  | [], _ => rfl
  | x :: w, h => by
    have hx : x ≠ 0 := h x (by simp)
    rw [inv_cons, wordS_app, wordS_inv G (fun y hy => h y (by simp [hy])), wordS_one, word1_neg G hx]
    show _ = inv (wordS G ([x] ++ w))
    rw [wordS_app, wordS_one, inv_app]
theorem wordS_red {G : List W} (hG : ∀ j, Nz (G.getD j [])) : ∀ (n : Nat) (u : W), u.length = n → Nz u → Fe (wordS G (red u)) (wordS G u)
  | 0, u, hu, _ => by rw [List.length_eq_zero_iff.1 hu]; exact rfl
  | n + 1, u, hu, hz => by
    rcases List.eq_nil_or_concat u with rfl | ⟨c, x, rfl⟩
    · cases hu
    · rw [List.concat_eq_append] at hu hz ⊢
      have ih := wordS_red hG n c (by simpa using hu) hz.left
      have plain : Fe (wordS G (red c ++ [x])) (wordS G (c ++ [x])) := by
        rw [wordS_app, wordS_app]
        exact ih.app Fe.rfl' (wordS_nz hG _) (wordS_nz hG _) (wordS_nz hG _) (wordS_nz hG _)
      rw [red_snoc]
      rcases List.eq_nil_or_concat (red c) with hr' | ⟨d, y, hr'⟩
      · rw [hr'] at plain ⊢
        exact plain
      · rw [List.concat_eq_append] at hr'
        rw [hr'] at plain ⊢
        rw [push_snoc]
        by_cases ho : opp y x = true
        · rw [if_pos ho]
          obtain ⟨hy, rfl⟩ := opp_iff.1 ho
          refine Fe.trans ?_ plain
          rw [List.append_assoc, wordS_app, wordS_app G [y], wordS_one, wordS_one, word1_neg G hy]
          have hw : Nz (word1 G y) := by have := wordS_nz hG [y]; rwa [wordS_one] at this
          have := Fe.app (a := wordS G d) Fe.rfl' (fe_inv hw).symm (wordS_nz hG _) (wordS_nz hG _) Nz.nil (hw.app hw.inv)
          rwa [List.append_nil] at this
        · rw [if_neg ho]
          exact plain
end
end Go.Proofs.Ct
