/- Felsch's strategy, plainly: the state of an enumeration with the pairs that have become defined; scans; what they keep, and what becomes less; Felsch's strategy, plainly: words of letters, filling, completing, the rounds, the whole procedure; Pairs of numbers in memory; the cosets of Felsch's strategy in memory. -/
import Derived.Test.YtmpnengjboabcaaFtCS2
import Derived.Test.YtmpnengjboabcaaFtCS7
import Derived.Test.YtmpnengjboabcaaFtCS5
import Derived.Test.YtmpnengjboabcaaFtCS6
namespace Go.Proofs.Ct
theorem foldTo_map {α β : Type} {p : α → β} {f : Nat → α → α} {h : Nat → β → β} (e : ∀ k x, p (f k x) = h k (p x)) : ∀ (n : Nat) (x : α), p (foldTo f n x) = foldTo h n (p x)
  | 0, _ => rfl
  | n + 1, x => by rw [foldTo, foldTo, e, foldTo_map e n x]
structure FS where
  s : St
  k : List (Nat × Nat)
def stepP (e c : Nat) (s : St) : List (Nat × Nat) :=
  if s.t.at e c < 0 then [] else
  if 0 ≤ (cutT s.t e c).at (s.rp e) c then [] else
  if 0 ≤ (cutT s.t e c).at (s.rp (s.t.at e c).toNat) (flp c) then [] else [(s.rp e, c)]
def stepF (e c : Nat) (f : FS) : FS := ⟨stepS e c f.s, f.k ++ stepP e c f.s⟩
def procF (e : Nat) (c : Nat) (f : FS) : FS := foldTo (stepF e) c f
def coinToF (m k : Nat) (f : FS) : FS := foldTo (fun k f => if k < f.s.q.length then procF (f.s.q.getD k 0) m f else f) k f
def coinF (m : Nat) (f : FS) (a b : Nat) : FS := coinToF m f.s.t.length ⟨mergeS { f.s with q := [] } a b, f.k⟩
theorem procF_s (e c : Nat) (f : FS) : (procF e c f).s = procTo e c f.s := foldTo_map (p := FS.s) (fun _ _ => rfl) c f
theorem coinToF_s (m k : Nat) (f : FS) : (coinToF m k f).s = coinTo m k f.s := foldTo_map (p := FS.s) (fun k x => by split <;> first | exact procF_s _ _ _ | rfl) k f
theorem coinF_s (m : Nat) (f : FS) (a b : Nat) : (coinF m f a b).s = coinS m f.s a b := coinToF_s _ _ _
def joinF (f : FS) (r c d : Nat) : FS := ⟨joinS f.s r c d, f.k ++ [(r, c)]⟩
def defF (m : Nat) (f : FS) (r c : Nat) : FS := ⟨defS m f.s r c, f.k ++ [(r, c)]⟩
def scanF (m : Nat) (f : FS) (r : Nat) (w : W) : FS × Option (Nat × Nat) :=
  if fwd f.s.t r w = w.length then (if leadTo f.s.t r w (fwd f.s.t r w) = (r : Int) then f else coinF m f (leadTo f.s.t r w (fwd f.s.t r w)).toNat r, none) else
  if w.length ≤ fwd f.s.t r w + bwd f.s.t r w (fwd f.s.t r w) then (coinF m f (leadTo f.s.t r w (fwd f.s.t r w)).toNat (leadTo f.s.t r (inv w) (bwd f.s.t r w (fwd f.s.t r w))).toNat, none) else
  if w.length = fwd f.s.t r w + bwd f.s.t r w (fwd f.s.t r w) + 1 then (joinF f (leadTo f.s.t r w (fwd f.s.t r w)).toNat (col (w.getD (fwd f.s.t r w) 0)) (leadTo f.s.t r (inv w) (bwd f.s.t r w (fwd f.s.t r w))).toNat, none) else
  (f, some ((leadTo f.s.t r w (fwd f.s.t r w)).toNat, col (w.getD (fwd f.s.t r w) 0)))
theorem scanF_s (m : Nat) (f : FS) (r : Nat) (w : W) : scanS m f.s r w = ((scanF m f r w).1.s, (scanF m f r w).2) := by
  unfold scanS scanF
  repeat' split
  all_goals first | rfl | rw [coinF_s]
def scansTo (m : Nat) (r : Nat) (ws : List W) (n : Nat) (f : FS) : FS := foldTo (fun i f => if f.s.rp r = r then (scanF m f r (ws.getD i [])).1 else f) n f
def scansF (m : Nat) (f : FS) (r : Nat) (ws : List W) : FS := scansTo m r ws ws.length f
def dedS (m : Nat) (ws : Nat → List W) (f : FS) (r c : Nat) : FS :=
  if (scansF m f r (ws c)).s.rp r = r ∧ 0 ≤ (scansF m f r (ws c)).s.t.at r c then scansF m (scansF m f r (ws c)) ((scansF m f r (ws c)).s.t.at r c).toNat (ws (flp c)) else scansF m f r (ws c)
def FS.top (f : FS) : Nat × Nat := f.k.getLastD (0, 0)
def FS.pop (f : FS) : FS := ⟨f.s, f.k.dropLast⟩
def dedStep (m : Nat) (ws : Nat → List W) (f : FS) : FS := dedS m ws f.pop f.top.1 f.top.2
def undL (row : List Int) : Nat := row.countP fun x => decide (x < 0)
def undT (t : Tb) : Nat := (t.map undL).sum
theorem undL_set {row : List Int} {c : Nat} {v : Int} (hc : c < row.length) (h0 : row.getD c 0 < 0) (hv : 0 ≤ v) : undL (row.set c v) + 1 = undL row := by
  induction row generalizing c with
  | nil => exact absurd hc (Nat.not_lt_zero _)
  | cons x row ih =>
    cases c with
    | zero =>
      have h0' : x < 0 := h0
      have h1 : decide (x < 0) = true := by simpa using h0'
      have h2 : decide (v < 0) = false := by simpa using hv
      simp [undL, h1, h2]
    | succ c =>
      have := ih (c := c) (by simpa using hc) (by simpa using h0)
      simp only [undL, List.set_cons_succ, List.countP_cons] at this ⊢
      omega
theorem undT_set {t : Tb} {r : Nat} {row : List Int} (hr : r < t.length) {d : Nat} (h : undL row + d = undL (t.row r)) : undT (t.set r row) + d = undT t := by
  induction t generalizing r with
  | nil => exact absurd hr (Nat.not_lt_zero _)
  | cons x t ih =>
    cases r with
    | zero =>
      have h' : undL row + d = undL x := h
      simp only [undT, List.set_cons_zero, List.map_cons, List.sum_cons]
      omega
    | succ r =>
      have := ih (r := r) (by simpa using hr) h
      simp only [undT, List.set_cons_succ, List.map_cons, List.sum_cons] at this ⊢
      omega
theorem undL_same {row : List Int} {c : Nat} {v : Int} (h0 : 0 ≤ row.getD c 0) (hv : 0 ≤ v) : undL (row.set c v) = undL row := by
  induction row generalizing c with
  | nil => rfl
  | cons x row ih =>
    cases c with
    | zero =>
      have h0' : 0 ≤ x := h0
      have h1 : decide (x < 0) = false := by simpa using h0'
      have h2 : decide (v < 0) = false := by simpa using hv
      simp [undL, h1, h2]
    | succ c =>
      have := ih (c := c) (by simpa using h0)
      simp only [undL, List.set_cons_succ, List.countP_cons] at this ⊢
      omega
section
variable {g : Nat} {s : St} {f : FS}
theorem und_join (h : Inv g s) {u v c : Nat} (hu : u < s.t.length) (hv : v < s.t.length) (hc : c < 2 * g) (h1 : s.t.at u c < 0) : undT (joinS s u c v).t < undT s.t := by
  have hf := flp_lt2 hc
  have e1 : undT (set2 s.t u c (v : Int)) + 1 = undT s.t := undT_set hu (undL_set (by rw [h.len u hu]; exact hc) h1 (Int.natCast_nonneg _))
  have hl : v < (set2 s.t u c (v : Int)).length := by rw [length_set2]; exact hv
  have hrl : ((set2 s.t u c (v : Int)).row v).length = 2 * g := by rw [rowlen_set2, h.len v hv]
  show undT (set2 (set2 s.t u c (v : Int)) v (flp c) (u : Int)) < _
  rcases Int.lt_or_le ((set2 s.t u c (v : Int)).at v (flp c)) 0 with h2 | h2
  · have e2 : undT (set2 (set2 s.t u c (v : Int)) v (flp c) (u : Int)) + 1 = undT (set2 s.t u c (v : Int)) := undT_set hl (undL_set (by rw [hrl]; exact hf) h2 (Int.natCast_nonneg _))
    omega
  · have e2 : undT (set2 (set2 s.t u c (v : Int)) v (flp c) (u : Int)) + 0 = undT (set2 s.t u c (v : Int)) := undT_set hl (undL_same h2 (Int.natCast_nonneg _))
    omega
def pot (m : Nat) (f : FS) : Nat := f.s.live.toNat * (3 * (f.s.t.length * m) + 1) + 2 * undT f.s.t + f.k.length
def Less (g : Nat) (f f' : FS) : Prop := pot (2 * g) f' ≤ pot (2 * g) f
theorem Less.refl : Less g f f := Nat.le_refl _
theorem Less.trans {f1 f2 f3 : FS} (h : Less g f1 f2) (k : Less g f2 f3) : Less g f1 f3 := Nat.le_trans k h
theorem und_le : ∀ {t : Tb} {m : Nat}, (∀ r, r < t.length → (t.row r).length = m) → undT t ≤ t.length * m
  | [], _, _ => Nat.zero_le _
  | row :: t, m, h => by
    have ih := und_le (t := t) (m := m) fun r hr => h (r + 1) (by simpa using hr)
    have h1 : undL row ≤ m := by
      have h2 : row.length = m := h 0 (by simp)
      unfold undL
      rw [← h2]
      exact List.countP_le_length
    show undL row + undT t ≤ (t.length + 1) * m
    rw [Nat.add_mul, Nat.one_mul]
    omega
theorem procF_len (e : Nat) (f : FS) : ∀ c, (procF e c f).k.length ≤ f.k.length + c
  | 0 => Nat.le_refl _
  | c + 1 => by
    have ih := procF_len e f c
    unfold procF at ih ⊢
    rw [foldTo]
    generalize foldTo (stepF e) c f = f1 at *
    show (f1.k ++ stepP e c f1.s).length ≤ _
    have h : (stepP e c f1.s).length ≤ 1 := by
      unfold stepP
      repeat' split
      all_goals simp
    rw [List.length_append]
    omega
theorem coinToF_len (m : Nat) (f : FS) : ∀ k, (coinToF m k f).k.length ≤ f.k.length + k * m
  | 0 => by rw [Nat.zero_mul]; exact Nat.le_refl _
  | k + 1 => by
    have ih := coinToF_len m f k
    unfold coinToF at ih ⊢
    rw [foldTo, Nat.add_mul, Nat.one_mul]
    generalize foldTo (fun k f => if k < f.s.q.length then procF (f.s.q.getD k 0) m f else f) k f = f1 at *
    split
    · have := procF_len (f1.s.q.getD k 0) f1 m
      omega
    · omega
theorem live_nonneg (h : Rest g s) : 0 ≤ s.live := by
  have h1 := h.lv
  have h2 := dc_le s
  omega
def KOk (g : Nat) (f : FS) : Prop := ∀ p ∈ f.k, p.1 < f.s.t.length ∧ p.2 < 2 * g
structure FRest (g : Nat) (f : FS) : Prop where
  rest : Rest g f.s
  kok : KOk g f
theorem stepP_ok (h : Inv g s) {e c : Nat} (he : e < s.t.length) (hc : c < 2 * g) : ∀ p ∈ stepP e c s, p.1 < s.t.length ∧ p.2 < 2 * g := fun p hp => by
  unfold stepP at hp
  split at hp
  · cases hp
  · split at hp
    · cases hp
    · split at hp
      · cases hp
      · rw [List.mem_singleton.1 hp]
        exact ⟨h.rlt he, hc⟩
theorem procF_k (h : Inv g f.s) {k : Nat} (hq : QI g k 0 f.s) (hk : k < f.s.q.length) (hK : KOk g f) : ∀ c, c ≤ 2 * g → KOk g (procF (f.s.q.getD k 0) c f)
  | 0, _ => hK
  | c + 1, hc => by
    have ih := procF_k h hq hk hK c (by omega)
    obtain ⟨h1, h2, h3, h4, h5, -⟩ := proc_q h hq hk c (by omega)
    have hn := h2.n
    have he := (hq.qd k hk).1
    unfold procF at ih ⊢
    rw [foldTo]
    have es := procF_s (f.s.q.getD k 0) c f
    unfold procF at es
    generalize foldTo (stepF (f.s.q.getD k 0)) c f = f1 at *
    rw [← es] at h1 hn
    obtain ⟨-, hcv⟩ := step_cov h1 (by rw [hn]; exact he) (show c < 2 * g by omega)
    have hn2 : (stepS (f.s.q.getD k 0) c f1.s).t.length = f1.s.t.length := hcv.n
    intro p hp
    show p.1 < (stepS (f.s.q.getD k 0) c f1.s).t.length ∧ _
    rw [hn2]
    rcases List.mem_append.1 hp with hp | hp
    · exact ih p hp
    · exact stepP_ok h1 (by rw [hn]; exact he) (by omega) p hp
theorem coinToF_k (h : Inv g f.s) (hq : QI g 0 0 f.s) (hK : KOk g f) : ∀ k, KOk g (coinToF (2 * g) k f)
  | 0 => hK
  | k + 1 => by
    have ih := coinToF_k h hq hK k
    obtain ⟨h1, h2, h3, -⟩ := coinTo_inv h hq k
    have es := coinToF_s (2 * g) k f
    unfold coinToF at ih es ⊢
    rw [foldTo]
    generalize foldTo (fun k f => if k < f.s.q.length then procF (f.s.q.getD k 0) (2 * g) f else f) k f = f1 at *
    rw [← es] at h1 h2 h3
    by_cases hk : k < f1.s.q.length
    · rw [if_pos hk]
      rw [show min k f1.s.q.length = k by omega] at h3
      exact procF_k h1 h3 hk ih (2 * g) (Nat.le_refl _)
    · rw [if_neg hk]
      exact ih
theorem coinToF_nil (m : Nat) {f : FS} (h : f.s.q = []) : ∀ k, coinToF m k f = f
  | 0 => rfl
  | k + 1 => by
    have ih := coinToF_nil m h k
    unfold coinToF at ih ⊢
    rw [foldTo, ih, if_neg (by rw [h]; exact Nat.not_lt_zero _)]
theorem dc_less {s' : St} (h : Rest g s) (c1 : Rest g s') (c2 : Cov g s s') {a b : Nat} (ha : a < s.t.length) (hb : b < s.t.length) (e : s.rp a ≠ s.rp b) (c3 : s'.rp a = s'.rp b) : dc s < dc s' := by
  have hn := c2.n
  have hra := h.inv.rlt ha
  have hrb := h.inv.rlt hb
  have k1 := c2.coarse a ha
  have k2 := c2.coarse b hb
  have hmx : max (s.rp a) (s.rp b) < s.t.length := by omega
  have hid : s.rp (max (s.rp a) (s.rp b)) = max (s.rp a) (s.rp b) := by
    rcases Nat.le_total (s.rp a) (s.rp b) with hab | hab
    · rw [Nat.max_eq_right hab]; exact h.inv.rid b hb
    · rw [Nat.max_eq_left hab]; exact h.inv.rid a ha
  have hdead : s'.rp (max (s.rp a) (s.rp b)) ≠ max (s.rp a) (s.rp b) := by
    have z1 := c1.inv.rle (s.rp a) (by omega)
    have z2 := c1.inv.rle (s.rp b) (by omega)
    rcases Nat.le_total (s.rp a) (s.rp b) with hab | hab
    · rw [Nat.max_eq_right hab]; omega
    · rw [Nat.max_eq_left hab]; omega
  have e3 := countP_flip (M := max (s.rp a) (s.rp b)) (p := fun x => decide (s.rp x ≠ x)) (p' := fun x => decide (s.rp x ≠ x) || decide (x = max (s.rp a) (s.rp b))) (by simpa using hid) (by simp) (fun x hx => by simp [hx]) s.t.length hmx
  have e4 : (List.range s.t.length).countP (fun x => decide (s.rp x ≠ x) || decide (x = max (s.rp a) (s.rp b))) ≤ dc s' := by
    unfold dc
    rw [hn]
    refine List.countP_mono_left fun x hx hp => ?_
    have hx' : x < s.t.length := by simpa using hx
    rw [Bool.or_eq_true, decide_eq_true_eq, decide_eq_true_eq] at hp
    rw [decide_eq_true_eq]
    rcases hp with hp | rfl
    · have h3 := h.inv.rle x hx'
      have h4 := c2.coarse x hx'
      have h5 := c1.inv.rle (s.rp x) (by have := h.inv.rlt hx'; omega)
      omega
    · exact hdead
  unfold dc at e4 ⊢
  omega
theorem coin_F (h : FRest g f) {a b : Nat} (ha : a < f.s.t.length) (hb : b < f.s.t.length) : FRest g (coinF (2 * g) f a b) ∧ Ext g f.s (coinF (2 * g) f a b).s ∧ (coinF (2 * g) f a b).s.t.length = f.s.t.length ∧ (coinF (2 * g) f a b).s.most = f.s.most ∧ Less g f (coinF (2 * g) f a b) := by
  obtain ⟨c1, c2, c3, c4⟩ := coin_rest h.rest ha hb
  have h0 : Inv g { f.s with q := [] } := ⟨h.rest.inv.len, h.rest.inv.bd, h.rest.inv.rl, h.rest.inv.rle, h.rest.inv.rid, h.rest.inv.back⟩
  have hq0 : QI g 0 0 { f.s with q := [] } := ⟨fun x hx hd c hc h0 => absurd h0 (by have := h.rest.dead x hx hd c hc; simp only at h0; omega), fun j hj => absurd hj (by simp), Nat.zero_le _, h.rest.lv⟩
  have hm := h0.merge (a := a) (b := b) ha hb
  have hqm := hq0.merge h0 (.inr ⟨rfl, rfl⟩) (a := a) (b := b) ha hb
  have hk := coinToF_k (f := ⟨mergeS { f.s with q := [] } a b, f.k⟩) hm hqm (fun p hp => by
    show p.1 < (mergeS { f.s with q := [] } a b).t.length ∧ _
    rw [t_merge]
    exact h.kok p hp) f.s.t.length
  rw [← coinF_s] at c1 c2 c4
  refine ⟨⟨c1, hk⟩, Ext.of_cov c1 c2, c2.n, c4, ?_⟩
  by_cases e : f.s.rp a = f.s.rp b
  · have e1 : mergeS { f.s with q := [] } a b = { f.s with q := [] } := if_pos e
    have e2 : coinF (2 * g) f a b = ⟨{ f.s with q := [] }, f.k⟩ := by
      unfold coinF
      rw [e1]
      exact coinToF_nil _ rfl _
    rw [e2]
    exact Nat.le_refl _
  · have hle := live_le h.rest c1 (Ext.of_cov c1 c2) c2.n
    have l1 := c1.lv
    have l2 := h.rest.lv
    have hn := c2.n
    rw [← coinF_s] at c3
    have hd : dc f.s < dc (coinF (2 * g) f a b).s := dc_less h.rest c1 c2 ha hb e c3
    have v1 := live_nonneg h.rest
    have v2 := live_nonneg c1
    have v3 : (coinF (2 * g) f a b).s.live.toNat + 1 ≤ f.s.live.toNat := by omega
    have u1 := und_le c1.inv.len
    have u2 := coinToF_len (2 * g) ⟨mergeS { f.s with q := [] } a b, f.k⟩ f.s.t.length
    have u3 : (coinF (2 * g) f a b).k.length ≤ f.k.length + f.s.t.length * (2 * g) := u2
    have hn' : (coinF (2 * g) f a b).s.t.length = f.s.t.length := hn
    rw [hn'] at u1
    unfold Less pot
    rw [hn']
    generalize f.s.t.length * (2 * g) = E at *
    have v4 := Nat.mul_le_mul_right (3 * E + 1) v3
    rw [Nat.add_mul, Nat.one_mul] at v4
    omega
theorem scan_F (h : FRest g f) {r : Nat} (hr : r < f.s.t.length) (hlr : f.s.rp r = r) {w : W} (hw : LOk g w) :
    (FRest g (scanF (2 * g) f r w).1 ∧ Ext g f.s (scanF (2 * g) f r w).1.s ∧ (scanF (2 * g) f r w).1.s.t.length = f.s.t.length ∧ (scanF (2 * g) f r w).1.s.most = f.s.most ∧ Less g f (scanF (2 * g) f r w).1) ∧
    (∀ u c, (scanF (2 * g) f r w).2 = some (u, c) → (scanF (2 * g) f r w).1 = f ∧ u < f.s.t.length ∧ c < 2 * g ∧ f.s.rp u = u ∧ f.s.t.at u c < 0) := by
  obtain ⟨s1, s2⟩ := scan_rest h.rest hr hlr hw
  have es := scanF_s (2 * g) f r w
  obtain ⟨f1, f2, f3⟩ := fwd_spec f.s.t r w
  have fp := fwd_pos f.s.t r w
  obtain ⟨b1, b2, b3⟩ := bwd_spec f.s.t r w (fwd f.s.t r w)
  have bp := bwd_pos f.s.t r w (fwd f.s.t r w)
  obtain ⟨fl, flv⟩ := lead_live h.rest hw hr hlr _ f1 fp
  obtain ⟨bl, blv⟩ := lead_live h.rest hw.inv hr hlr _ (by rw [length_inv]; exact b1) bp
  have hnext : fwd f.s.t r w < w.length → f.s.t.at (leadTo f.s.t r w (fwd f.s.t r w)).toNat (col (w.getD (fwd f.s.t r w) 0)) < 0 := fun hlt => by
    rcases f2 with f2 | f2
    · omega
    · rw [leadTo_succ, if_neg (by omega)] at f2
      exact f2
  have hself : FRest g f ∧ Ext g f.s f.s ∧ f.s.t.length = f.s.t.length ∧ f.s.most = f.s.most ∧ Less g f f := ⟨h, Ext.refl h.rest, rfl, rfl, Less.refl⟩
  constructor
  · unfold scanF at es ⊢
    generalize hi : fwd f.s.t r w = i at *
    generalize hk : bwd f.s.t r w i = k at *
    generalize leadTo f.s.t r w i = a at *
    generalize leadTo f.s.t r (Ct.inv w) k = b at *
    by_cases h1 : i = w.length
    · rw [if_pos h1] at es ⊢
      by_cases h2 : a = (r : Int)
      · rw [if_pos h2]
        exact hself
      · rw [if_neg h2]
        exact coin_F h fl hr
    · rw [if_neg h1] at es ⊢
      by_cases h2 : w.length ≤ i + k
      · rw [if_pos h2]
        exact coin_F h fl bl
      · rw [if_neg h2] at es ⊢
        by_cases h3 : w.length = i + k + 1
        · rw [if_pos h3] at es ⊢
          obtain ⟨z1, z2, z3, z4⟩ := s1 _ es
          have hil : i < w.length := by omega
          have hun := und_join h.rest.inv fl bl (hw.col hil) (hnext hil)
          refine ⟨⟨z1, fun p hp => ?_⟩, z2, z3, z4, by
            unfold Less pot
            rw [show (joinF f a.toNat (col (w.getD i 0)) b.toNat).s.t.length = f.s.t.length from length_joinS _ _ _]
            show f.s.live.toNat * _ + 2 * undT (joinS f.s a.toNat (col (w.getD i 0)) b.toNat).t + (f.k ++ [(a.toNat, col (w.getD i 0))]).length ≤ _
            rw [List.length_append, List.length_singleton]
            omega⟩
          show p.1 < (joinS f.s _ _ _).t.length ∧ _
          rw [length_joinS]
          rcases List.mem_append.1 hp with hp | hp
          · exact h.kok p hp
          · rw [List.mem_singleton.1 hp]
            exact ⟨fl, hw.col hil⟩
        · rw [if_neg h3]
          exact hself
  · intro u c e
    obtain ⟨x1, x2, x3, x4, x5⟩ := s2 (scanF (2 * g) f r w).1.s u c (by rw [es, e])
    refine ⟨?_, x2, x3, x4, x5⟩
    unfold scanF at e ⊢
    repeat' split at e
    all_goals first | cases e | skip
    rename_i h1 h2 h3
    rw [if_neg h1, if_neg h2, if_neg h3]
theorem scansTo_F {ws : List W} (hw : ∀ j, j < ws.length → LOk g (ws.getD j [])) (h : FRest g f) {r : Nat} (hr : r < f.s.t.length) : ∀ n, n ≤ ws.length →
    FRest g (scansTo (2 * g) r ws n f) ∧ Ext g f.s (scansTo (2 * g) r ws n f).s ∧ (scansTo (2 * g) r ws n f).s.t.length = f.s.t.length ∧ (scansTo (2 * g) r ws n f).s.most = f.s.most ∧ Less g f (scansTo (2 * g) r ws n f)
  | 0, _ => ⟨h, Ext.refl h.rest, rfl, rfl, Less.refl⟩
  | n + 1, hn => by
    obtain ⟨i1, i2, i3, i4, i5⟩ := scansTo_F hw h hr n (by omega)
    unfold scansTo at i1 i2 i3 i4 i5 ⊢
    rw [foldTo]
    generalize foldTo (fun i f => if f.s.rp r = r then (scanF (2 * g) f r (ws.getD i [])).1 else f) n f = f1 at *
    by_cases hl : f1.s.rp r = r
    · rw [if_pos hl]
      obtain ⟨j1, j2, j3, j4, j5⟩ := (scan_F i1 (by rw [i3]; exact hr) hl (hw n (by omega))).1
      exact ⟨j1, i2.trans h.rest i1.rest j2, j3.trans i3, j4.trans i4, i5.trans j5⟩
    · rw [if_neg hl]
      exact ⟨i1, i2, i3, i4, i5⟩
structure FExt (g : Nat) (f f' : FS) : Prop where
  rest : FRest g f'
  ext : Ext g f.s f'.s
  n : f'.s.t.length = f.s.t.length
  most : f'.s.most = f.s.most
  less : Less g f f'
theorem FExt.refl (h : FRest g f) : FExt g f f := ⟨h, Ext.refl h.rest, rfl, rfl, Less.refl⟩
theorem FExt.trans {f1 f2 f3 : FS} (h0 : FRest g f1) (h : FExt g f1 f2) (k : FExt g f2 f3) : FExt g f1 f3 := ⟨k.rest, h.ext.trans h0.rest h.rest.rest k.ext, k.n.trans h.n, k.most.trans h.most, h.less.trans k.less⟩
theorem scans_F {ws : List W} (hw : ∀ j, j < ws.length → LOk g (ws.getD j [])) (h : FRest g f) {r : Nat} (hr : r < f.s.t.length) : FExt g f (scansF (2 * g) f r ws) := by
  obtain ⟨i1, i2, i3, i4, i5⟩ := scansTo_F hw h hr ws.length (Nat.le_refl _)
  exact ⟨i1, i2, i3, i4, i5⟩
theorem dedS_F {ws : Nat → List W} (hw : ∀ c, c < 2 * g → ∀ j, j < (ws c).length → LOk g ((ws c).getD j [])) (h : FRest g f) {r c : Nat} (hr : r < f.s.t.length) (hc : c < 2 * g) : FExt g f (dedS (2 * g) ws f r c) := by
  have h1 := scans_F (hw c hc) h hr
  unfold dedS
  generalize scansF (2 * g) f r (ws c) = f1 at *
  split
  · rename_i hh
    have hb := h1.rest.rest.inv.bd r (by rw [h1.n]; exact hr) c hc
    exact h1.trans h (scans_F (hw _ (flp_lt2 hc)) h1.rest (by omega))
  · exact h1
theorem top_mem {f : FS} (hk : f.k ≠ []) : f.top ∈ f.k := by
  unfold FS.top
  rw [List.getLastD_eq_getLast?, List.getLast?_eq_some_getLast hk]
  exact List.getLast_mem hk
theorem pop_F (h : FRest g f) : FRest g f.pop := ⟨h.rest, fun p hp => h.kok p (List.dropLast_subset _ hp)⟩
theorem dedStep_F {ws : Nat → List W} (hw : ∀ c, c < 2 * g → ∀ j, j < (ws c).length → LOk g ((ws c).getD j [])) (h : FRest g f) (hk : f.k ≠ []) : FExt g f.pop (dedStep (2 * g) ws f) := by
  obtain ⟨h1, h2⟩ := h.kok _ (top_mem hk)
  exact dedS_F hw (pop_F h) h1 h2
def dedN (m : Nat) (ws : Nat → List W) : Nat → FS → FS
  | 0, f => f
  | n + 1, f => if f.k = [] then f else dedN m ws n (dedStep m ws f)
theorem dedN_stop {m : Nat} {ws : Nat → List W} (h : f.k = []) : ∀ n, dedN m ws n f = f
  | 0 => rfl
  | n + 1 => by rw [dedN, if_pos h]
theorem dedN_more {m : Nat} {ws : Nat → List W} : ∀ {n : Nat} {f : FS}, (dedN m ws n f).k = [] → ∀ k, n ≤ k → dedN m ws k f = dedN m ws n f
  | 0, f, h, k, _ => dedN_stop h k
  | n + 1, f, h, 0, hk => absurd hk (by omega)
  | n + 1, f, h, k + 1, hk => by
    rw [dedN] at h
    rw [dedN, dedN]
    split
    · rfl
    · rename_i hne
      rw [if_neg hne] at h
      exact dedN_more h k (by omega)
theorem dedStep_less {ws : Nat → List W} (hw : ∀ c, c < 2 * g → ∀ j, j < (ws c).length → LOk g ((ws c).getD j [])) (h : FRest g f) (hk : f.k ≠ []) : pot (2 * g) (dedStep (2 * g) ws f) < pot (2 * g) f := by
  have h1 : pot (2 * g) (dedStep (2 * g) ws f) ≤ pot (2 * g) f.pop := (dedStep_F hw h hk).less
  have hp : f.pop.k.length < f.k.length := by
    show f.k.dropLast.length < _
    rw [List.length_dropLast]
    have := List.length_pos_iff.2 hk
    omega
  have e : f.pop.s = f.s := rfl
  unfold pot at h1 ⊢
  rw [e] at h1
  omega
theorem ded_ends {ws : Nat → List W} (hw : ∀ c, c < 2 * g → ∀ j, j < (ws c).length → LOk g ((ws c).getD j [])) : ∀ (n : Nat) (f : FS), FRest g f → pot (2 * g) f ≤ n → (dedN (2 * g) ws n f).k = []
  | 0, f, _, hn => by
    have : f.k.length = 0 := by unfold pot at hn; omega
    exact List.length_eq_zero_iff.1 this
  | n + 1, f, h, hn => by
    rw [dedN]
    split
    · assumption
    · rename_i hk
      have h1 := dedStep_less hw h hk
      exact ded_ends hw n _ (dedStep_F hw h hk).rest (by omega)
def ded (m : Nat) (ws : Nat → List W) (f : FS) : FS := dedN m ws (pot m f) f
theorem ded_step {ws : Nat → List W} (hw : ∀ c, c < 2 * g → ∀ j, j < (ws c).length → LOk g ((ws c).getD j [])) (h : FRest g f) (hk : f.k ≠ []) : ded (2 * g) ws f = ded (2 * g) ws (dedStep (2 * g) ws f) := by
  have h1 := dedStep_less hw h hk
  have h2 := ded_ends hw _ _ (dedStep_F hw h hk).rest (Nat.le_refl _)
  unfold ded
  obtain ⟨n, hn⟩ : ∃ n, pot (2 * g) f = n + 1 := ⟨pot (2 * g) f - 1, by omega⟩
  rw [hn, dedN, if_neg hk]
  exact dedN_more h2 n (by omega)
theorem ded_stop {m : Nat} {ws : Nat → List W} (hk : f.k = []) : ded m ws f = f := dedN_stop hk _
theorem pop_less : Less g f f.pop := by
  have hp : f.pop.k.length ≤ f.k.length := by
    show f.k.dropLast.length ≤ _
    rw [List.length_dropLast]
    omega
  have e : f.pop.s = f.s := rfl
  unfold Less pot
  rw [e]
  omega
theorem dedN_F {ws : Nat → List W} (hw : ∀ c, c < 2 * g → ∀ j, j < (ws c).length → LOk g ((ws c).getD j [])) : ∀ (n : Nat) {f : FS}, FRest g f → FExt g f (dedN (2 * g) ws n f)
  | 0, _, h => FExt.refl h
  | n + 1, f, h => by
    rw [dedN]
    split
    · exact FExt.refl h
    · rename_i hk
      have hs := dedStep_F hw h hk
      have h1 := dedN_F hw n hs.rest
      have h0 : FExt g f f.pop := ⟨pop_F h, Ext.refl h.rest, rfl, rfl, pop_less⟩
      exact (h0.trans h hs).trans h h1
theorem ded_F {ws : Nat → List W} (hw : ∀ c, c < 2 * g → ∀ j, j < (ws c).length → LOk g ((ws c).getD j [])) (h : FRest g f) : FExt g f (ded (2 * g) ws f) ∧ (ded (2 * g) ws f).k = [] :=
  ⟨dedN_F hw _ h, ded_ends hw _ _ h (Nat.le_refl _)⟩
end
end Go.Proofs.Ct
namespace Go.Proofs.Ct
def rotTo (l : List W) (w : W) (x : Int) (k : Nat) : List W := foldTo (fun k l => if w.getD k 0 = x ∧ w.drop k ++ w.take k ∉ l then l ++ [w.drop k ++ w.take k] else l) k l
def rotL (l : List W) (w : W) (x : Int) : List W := rotTo l w x w.length
def wordsTo2 (rels : List W) (x : Int) (k : Nat) : List W := foldTo (fun i l => rotL (rotL l (rels.getD i []) x) (inv (rels.getD i [])) x) k []
def wordsX (rels : List W) (x : Int) : List W := wordsTo2 rels x rels.length
def wsF (rels : List W) (c : Nat) : List W := wordsX rels (letter c)
theorem mem_rotTo {l : List W} {w : W} {x : Int} {v : W} : ∀ {k : Nat}, v ∈ rotTo l w x k → v ∈ l ∨ ∃ j, j < k ∧ w.getD j 0 = x ∧ v = w.drop j ++ w.take j
  | 0, h => .inl h
  | k + 1, h => by
    unfold rotTo at h
    rw [foldTo] at h
    split at h
    · rename_i hh
      rcases List.mem_append.1 h with h | h
      · rcases mem_rotTo (k := k) h with h | ⟨j, h1, h2⟩
        · exact .inl h
        · exact .inr ⟨j, by omega, h2⟩
      · exact .inr ⟨k, by omega, hh.1, List.mem_singleton.1 h⟩
    · rcases mem_rotTo (k := k) h with h | ⟨j, h1, h2⟩
      · exact .inl h
      · exact .inr ⟨j, by omega, h2⟩
section
variable {g lim : Nat} {rels sub : List W} {f : FS}
theorem lok_rot {w : W} (h : LOk g w) (k : Nat) : LOk g (w.drop k ++ w.take k) := fun x hx => by
  rcases List.mem_append.1 hx with hx | hx
  · exact h x (List.mem_of_mem_drop hx)
  · exact h x (List.mem_of_mem_take hx)
theorem wordsTo2_ok (hr : ∀ j, j < rels.length → LOk g (rels.getD j [])) (x : Int) : ∀ k, k ≤ rels.length → ∀ v ∈ wordsTo2 rels x k, LOk g v
  | 0, _, v, h => by cases h
  | k + 1, hk, v, h => by
    unfold wordsTo2 at h
    rw [foldTo] at h
    have hw := hr k (by omega)
    rcases mem_rotTo h with h | ⟨j, -, -, rfl⟩
    · rcases mem_rotTo h with h | ⟨j, -, -, rfl⟩
      · exact wordsTo2_ok hr x k (by omega) v h
      · exact lok_rot hw j
    · exact lok_rot hw.inv j
theorem mem_getD0 {l : List W} {j : Nat} (h : j < l.length) : l.getD j [] ∈ l := by
  rw [List.getD_eq_getElem?_getD, List.getElem?_eq_getElem h]
  exact List.getElem_mem h
theorem wsF_ok (hr : ∀ j, j < rels.length → LOk g (rels.getD j [])) (c : Nat) : ∀ j, j < (wsF rels c).length → LOk g ((wsF rels c).getD j []) := fun _ hj => wordsTo2_ok hr (letter c) _ (Nat.le_refl _) _ (mem_getD0 hj)
structure FGood (g lim : Nat) (f : FS) : Prop where
  good : Good g lim f.s
  kok : KOk g f
theorem FGood.rest (h : FGood g lim f) : FRest g f := ⟨h.good.rest, h.kok⟩
theorem FGood.ext {f' : FS} (h : FGood g lim f) (k : FExt g f f') : FGood g lim f' := ⟨h.good.of_ext k.rest.rest k.ext k.n k.most, k.rest.kok⟩
theorem FGood.defn (h : FGood g lim f) {r c : Nat} (hr : r < f.s.t.length) (hc : c < 2 * g) (hl : f.s.rp r = r) (h1 : f.s.t.at r c < 0) (hroom : f.s.t.length < lim) : FGood g lim (defF (2 * g) f r c) ∧ Ext g f.s (defF (2 * g) f r c).s := by
  obtain ⟨a, b⟩ := h.good.defn hr hc hl h1 hroom
  refine ⟨⟨a, fun p hp => ?_⟩, b⟩
  show p.1 < (defS (2 * g) f.s r c).t.length ∧ _
  rw [length_def]
  rcases List.mem_append.1 hp with hp | hp
  · have := h.kok p hp
    exact ⟨by omega, this.2⟩
  · rw [List.mem_singleton.1 hp]
    exact ⟨by show r < _; omega, hc⟩
def fillFF (m lim : Nat) : Nat → FS → Nat → W → Option FS
  | 0, _, _, _ => none
  | fuel + 1, f, r, w => match (scanF m f r w).2 with
    | none => some (scanF m f r w).1
    | some (u, c) => if lim ≤ f.s.t.length then none else fillFF m lim fuel (defF m f u c) r w
def fillFS (m lim : Nat) (f : FS) (r : Nat) (w : W) : Option FS := fillFF m lim (lim + 1 - f.s.t.length) f r w
theorem fillFF_good : ∀ (fuel : Nat) {f : FS}, FGood g lim f → ∀ {r : Nat}, r < f.s.t.length → f.s.rp r = r → ∀ {w : W}, LOk g w → ∀ f', fillFF (2 * g) lim fuel f r w = some f' → FGood g lim f' ∧ Ext g f.s f'.s
  | 0, _, _, _, _, _, _, _, f', e => by cases e
  | fuel + 1, f, h, r, hr, hl, w, hw, f', e => by
    obtain ⟨a, b⟩ := scan_F h.rest hr hl hw
    unfold fillFF at e
    cases ho : (scanF (2 * g) f r w).2 with
    | none =>
      rw [ho] at e
      cases e
      exact ⟨h.ext ⟨a.1, a.2.1, a.2.2.1, a.2.2.2.1, a.2.2.2.2⟩, a.2.1⟩
    | some uc =>
      obtain ⟨u, c⟩ := uc
      rw [ho] at e
      simp only at e
      obtain ⟨-, h2, h3, h4, h5⟩ := b _ _ ho
      split at e
      · cases e
      · rename_i hne
        obtain ⟨k1, k2⟩ := h.defn h2 h3 h4 h5 (by omega)
        have hn : (defF (2 * g) f u c).s.t.length = f.s.t.length + 1 := length_def _ _ _
        obtain ⟨k3, k4⟩ := fillFF_good fuel k1 (r := r) (by omega) (by
          show (defS (2 * g) f.s u c).rp r = r
          rw [rp_def_old h.good.rest.inv _ _ _ hr]; exact hl) hw f' e
        exact ⟨k3, k2.trans h.good.rest k1.good.rest k4⟩
theorem fillFS_step {m : Nat} {r : Nat} {w : W} (h : f.s.t.length ≤ lim) : fillFS m lim f r w = match (scanF m f r w).2 with
    | none => some (scanF m f r w).1
    | some (u, c) => if lim ≤ f.s.t.length then none else fillFS m lim (defF m f u c) r w := by
  unfold fillFS
  rw [show lim + 1 - f.s.t.length = (lim - f.s.t.length) + 1 by omega, fillFF]
  cases (scanF m f r w).2 with
  | none => rfl
  | some uc =>
    simp only
    split
    · rfl
    · rw [show (defF m f uc.1 uc.2).s.t.length = f.s.t.length + 1 from length_def _ _ _, show lim + 1 - (f.s.t.length + 1) = lim - f.s.t.length by omega]
def openC (m : Nat) (s : St) (r : Nat) : Option Nat := first (fun c => decide (s.t.at r c < 0)) m
def openR (m : Nat) (s : St) (r : Nat) : Bool := decide (s.rp r = r) && (openC m s r).isSome
def openS (m : Nat) (s : St) : Option (Nat × Nat) := match first (openR m s) s.t.length with
  | none => none
  | some r => some (r, (openC m s r).getD 0)
theorem openS_some {m : Nat} {s : St} {r c : Nat} (h : openS m s = some (r, c)) : r < s.t.length ∧ s.rp r = r ∧ c < m ∧ s.t.at r c < 0 := by
  unfold openS at h
  split at h
  · cases h
  · rename_i r' hr
    cases h
    obtain ⟨h1, h2, -⟩ := first_some' hr
    unfold openR at h2
    rw [Bool.and_eq_true, decide_eq_true_eq] at h2
    obtain ⟨c, hc⟩ := Option.isSome_iff_exists.1 h2.2
    obtain ⟨h3, h4, -⟩ := first_some' hc
    rw [hc]
    exact ⟨h1, h2.1, h3, by simpa using h4⟩
theorem openS_none {m : Nat} {s : St} (h : openS m s = none) : ∀ r, r < s.t.length → s.rp r = r → ∀ c, c < m → 0 ≤ s.t.at r c := fun r hr hl c hc => by
  unfold openS at h
  split at h
  · rename_i hn
    have h1 := first_none' hn r hr
    unfold openR at h1
    rw [Bool.and_eq_false_iff] at h1
    rcases h1 with h1 | h1
    · exact absurd hl (by simpa using h1)
    · have h2 : openC m s r = none := by simpa using h1
      have := first_none' h2 c hc
      simpa using this
  · cases h
def compN (m lim : Nat) (ws : Nat → List W) : Nat → FS → Option FS
  | 0, _ => none
  | n + 1, f => match openS m f.s with
    | none => some f
    | some (r, c) => if lim ≤ f.s.t.length then none else compN m lim ws n (ded m ws (defF m f r c))
def compF (m lim : Nat) (ws : Nat → List W) (f : FS) : Option FS := compN m lim ws (lim + 1 - f.s.t.length) f
section
variable {ws : Nat → List W}
theorem def_ded (hw : ∀ c, c < 2 * g → ∀ j, j < (ws c).length → LOk g ((ws c).getD j [])) (h : FGood g lim f) {r c : Nat} (ho : openS (2 * g) f.s = some (r, c)) (hroom : f.s.t.length < lim) :
    FGood g lim (ded (2 * g) ws (defF (2 * g) f r c)) ∧ Ext g f.s (ded (2 * g) ws (defF (2 * g) f r c)).s ∧ (ded (2 * g) ws (defF (2 * g) f r c)).s.t.length = f.s.t.length + 1 ∧ (ded (2 * g) ws (defF (2 * g) f r c)).k = [] := by
  obtain ⟨h1, h2, h3, h4⟩ := openS_some ho
  obtain ⟨k1, k2⟩ := h.defn h1 h3 h2 h4 hroom
  obtain ⟨d1, d2⟩ := ded_F hw k1.rest
  exact ⟨k1.ext d1, k2.trans h.good.rest k1.good.rest d1.ext, d1.n.trans (length_def _ _ _), d2⟩
theorem compN_good (hw : ∀ c, c < 2 * g → ∀ j, j < (ws c).length → LOk g ((ws c).getD j [])) : ∀ (n : Nat) {f : FS}, FGood g lim f → f.k = [] → ∀ f', compN (2 * g) lim ws n f = some f' → FGood g lim f' ∧ Ext g f.s f'.s ∧ f'.k = [] ∧ openS (2 * g) f'.s = none ∧ (f' = f ∨ f.s.t.length < f'.s.t.length)
  | 0, _, _, _, f', e => by cases e
  | n + 1, f, h, hk, f', e => by
    rw [compN] at e
    cases ho : openS (2 * g) f.s with
    | none =>
      rw [ho] at e
      cases e
      exact ⟨h, Ext.refl h.good.rest, hk, ho, .inl rfl⟩
    | some rc =>
      obtain ⟨r, c⟩ := rc
      rw [ho] at e
      simp only at e
      split at e
      · cases e
      · obtain ⟨d1, d2, d3, d4⟩ := def_ded hw h ho (by omega)
        obtain ⟨e1, e2, e3, e4, e5⟩ := compN_good hw n d1 d4 f' e
        refine ⟨e1, d2.trans h.good.rest d1.good.rest e2, e3, e4, .inr ?_⟩
        have := e2.n
        omega
theorem compF_step (hw : ∀ c, c < 2 * g → ∀ j, j < (ws c).length → LOk g ((ws c).getD j [])) (h : FGood g lim f) : compF (2 * g) lim ws f = match openS (2 * g) f.s with
    | none => some f
    | some (r, c) => if lim ≤ f.s.t.length then none else compF (2 * g) lim ws (ded (2 * g) ws (defF (2 * g) f r c)) := by
  have hn := h.good.n2
  unfold compF
  rw [show lim + 1 - f.s.t.length = (lim - f.s.t.length) + 1 by omega, compN]
  cases ho : openS (2 * g) f.s with
  | none => rfl
  | some rc =>
    simp only
    split
    · rfl
    · rw [(def_ded hw h ho (by omega)).2.2.1, show lim + 1 - (f.s.t.length + 1) = lim - f.s.t.length by omega]
theorem compF_good (hw : ∀ c, c < 2 * g → ∀ j, j < (ws c).length → LOk g ((ws c).getD j [])) (h : FGood g lim f) (hk : f.k = []) : ∀ f', compF (2 * g) lim ws f = some f' → FGood g lim f' ∧ Ext g f.s f'.s ∧ f'.k = [] ∧ openS (2 * g) f'.s = none ∧ (f' = f ∨ f.s.t.length < f'.s.t.length) := compN_good hw _ h hk
end
def chkTo (m : Nat) (rels : List W) (n : Nat) (f : FS) : FS := foldTo (fun r f => scansF m f r rels) n f
def chkF (m : Nat) (rels sub : List W) (f : FS) : FS := scansF m (chkTo m rels f.s.t.length f) 0 sub
theorem chkTo_F (hr : ∀ j, j < rels.length → LOk g (rels.getD j [])) (h : FRest g f) : ∀ n, n ≤ f.s.t.length → FExt g f (chkTo (2 * g) rels n f)
  | 0, _ => FExt.refl h
  | n + 1, hn => by
    have ih := chkTo_F hr h n (by omega)
    unfold chkTo at ih ⊢
    rw [foldTo]
    exact ih.trans h (scans_F hr ih.rest (by rw [ih.n]; omega))
theorem chkF_F (hr : ∀ j, j < rels.length → LOk g (rels.getD j [])) (hs : ∀ j, j < sub.length → LOk g (sub.getD j [])) (h : FRest g f) (h1 : 1 ≤ f.s.t.length) : FExt g f (chkF (2 * g) rels sub f) := by
  have ih := chkTo_F hr h f.s.t.length (Nat.le_refl _)
  exact ih.trans h (scans_F hs ih.rest (by rw [ih.n]; omega))
def rndN (m lim : Nat) (rels sub : List W) : Nat → FS → Option (Option FS)
  | 0, _ => none
  | n + 1, f => match compF m lim (wsF rels) (ded m (wsF rels) f) with
    | none => some none
    | some f2 => if (chkF m rels sub f2).s.live = f2.s.live then some (some (chkF m rels sub f2)) else rndN m lim rels sub n (chkF m rels sub f2)
def rpot (lim : Nat) (f : FS) : Nat := (lim - f.s.t.length) * (lim + 2) + f.s.live.toNat + 1
theorem live_le_n {s : St} (h : Rest g s) : s.live ≤ s.t.length := by have := h.lv; omega
theorem round_less (hr : ∀ j, j < rels.length → LOk g (rels.getD j [])) (hs : ∀ j, j < sub.length → LOk g (sub.getD j [])) (h : FGood g lim f) {f2 : FS} (e : compF (2 * g) lim (wsF rels) (ded (2 * g) (wsF rels) f) = some f2) :
    FGood g lim f2 ∧ Ext g f.s f2.s ∧ openS (2 * g) f2.s = none ∧ FExt g f2 (chkF (2 * g) rels sub f2) ∧ ((chkF (2 * g) rels sub f2).s.live ≠ f2.s.live → rpot lim (chkF (2 * g) rels sub f2) < rpot lim f) := by
  obtain ⟨d1, d2⟩ := ded_F (fun c _ => wsF_ok hr c) h.rest
  have hd := h.ext d1
  obtain ⟨c1, c2, c3, c4, c5⟩ := compF_good (fun c _ => wsF_ok hr c) hd d2 f2 e
  have hx := chkF_F hr hs c1.rest c1.good.n1
  refine ⟨c1, d1.ext.trans h.good.rest hd.good.rest c2, c4, hx, fun hne => ?_⟩
  have l1 := live_le hd.good.rest hd.good.rest (Ext.refl hd.good.rest) rfl
  have l2 := live_le h.good.rest hd.good.rest d1.ext d1.n
  have l3 := live_le c1.good.rest hx.rest.rest hx.ext hx.n
  have l4 := live_nonneg hx.rest.rest
  have l5 := live_nonneg h.good.rest
  have n2 := c1.good.n2
  have n3 := hx.n
  have n4 := d1.n
  unfold rpot
  rw [n3]
  rcases c5 with rfl | c5
  · rw [n4]
    omega
  · have l6 := live_le_n c1.good.rest
    obtain ⟨d, hd2⟩ : ∃ d, lim - f.s.t.length = (lim - f2.s.t.length) + (d + 1) := ⟨f2.s.t.length - f.s.t.length - 1, by omega⟩
    rw [hd2, Nat.add_mul (lim - f2.s.t.length), Nat.add_mul d]
    omega
theorem rndN_ends (hr : ∀ j, j < rels.length → LOk g (rels.getD j [])) (hs : ∀ j, j < sub.length → LOk g (sub.getD j [])) : ∀ (n : Nat) {f : FS}, FGood g lim f → rpot lim f ≤ n → ∃ o, rndN (2 * g) lim rels sub n f = some o
  | 0, f, _, hn => by unfold rpot at hn; omega
  | n + 1, f, h, hn => by
    rw [rndN]
    cases e : compF (2 * g) lim (wsF rels) (ded (2 * g) (wsF rels) f) with
    | none => exact ⟨_, rfl⟩
    | some f2 =>
      simp only
      obtain ⟨r1, -, -, r4, r5⟩ := round_less hr hs h e
      split
      · exact ⟨_, rfl⟩
      · rename_i hne
        exact rndN_ends hr hs n (r1.ext r4) (by have := r5 hne; omega)
theorem rndN_more {m : Nat} {o : Option FS} : ∀ {n : Nat} {f : FS}, rndN m lim rels sub n f = some o → ∀ k, n ≤ k → rndN m lim rels sub k f = some o
  | 0, _, h, _, _ => by cases h
  | n + 1, f, h, 0, hk => absurd hk (by omega)
  | n + 1, f, h, k + 1, hk => by
    rw [rndN] at h ⊢
    cases e : compF m lim (wsF rels) (ded m (wsF rels) f) with
    | none => rw [e] at h; exact h
    | some f2 =>
      rw [e] at h
      simp only at h ⊢
      split
      · rename_i hh
        rw [if_pos hh] at h
        exact h
      · rename_i hh
        rw [if_neg hh] at h
        exact rndN_more h k (by omega)
def rndF (m lim : Nat) (rels sub : List W) (f : FS) : Option FS := (rndN m lim rels sub (rpot lim f) f).getD none
theorem rndF_step (hr : ∀ j, j < rels.length → LOk g (rels.getD j [])) (hs : ∀ j, j < sub.length → LOk g (sub.getD j [])) (h : FGood g lim f) : rndF (2 * g) lim rels sub f = match compF (2 * g) lim (wsF rels) (ded (2 * g) (wsF rels) f) with
    | none => none
    | some f2 => if (chkF (2 * g) rels sub f2).s.live = f2.s.live then some (chkF (2 * g) rels sub f2) else rndF (2 * g) lim rels sub (chkF (2 * g) rels sub f2) := by
  unfold rndF
  obtain ⟨n, hn⟩ : ∃ n, rpot lim f = n + 1 := ⟨rpot lim f - 1, by unfold rpot; omega⟩
  rw [hn, rndN]
  cases e : compF (2 * g) lim (wsF rels) (ded (2 * g) (wsF rels) f) with
  | none => rfl
  | some f2 =>
    simp only
    obtain ⟨r1, -, -, r4, r5⟩ := round_less hr hs h e
    split
    · rfl
    · rename_i hne
      have hl := r5 hne
      obtain ⟨o, ho⟩ := rndN_ends hr hs _ (r1.ext r4) (Nat.le_refl _)
      rw [rndN_more ho n (by omega), ho]
def subF (m lim : Nat) (rels sub : List W) (i : Nat) (f : FS) : Option FS := (fillFS m lim f 0 (sub.getD i [])).map (ded m (wsF rels))
def startF (m : Nat) : FS := ⟨startS m, []⟩
def felschS (m lim : Nat) (rels sub : List W) : Option FS := (optTo (subF m lim rels sub) sub.length (startF m)).bind (rndF m lim rels sub)
theorem startF_good (hl : 1 ≤ lim) : FGood g lim (startF (2 * g)) := ⟨start_good hl, fun p hp => by cases hp⟩
theorem subF_good (hr : ∀ j, j < rels.length → LOk g (rels.getD j [])) (hs : ∀ j, j < sub.length → LOk g (sub.getD j [])) (hl : 1 ≤ lim) {k : Nat} (hk : k ≤ sub.length) {f' : FS} (e : optTo (subF (2 * g) lim rels sub) k (startF (2 * g)) = some f') : FGood g lim f' := by
  refine optTo_inv (p := fun _ f => FGood g lim f) (startF_good hl) k (fun i f f1 hi h e => ?_) f' e
  unfold subF at e
  obtain ⟨f2, h2, rfl⟩ := Option.map_eq_some_iff.1 e
  have h0 := rp_zero h.good.rest h.good.n1
  have h3 := (fillFF_good _ h h.good.n1 h0 (hs i (by omega)) f2 h2).1
  exact h3.ext (ded_F (fun c _ => wsF_ok hr c) h3.rest).1
end
end Go.Proofs.Ct
namespace Go.Proofs
open Go.RowKit Go.Shelf Go.Proofs.Ct Go.Maps
def ccells (ps : List (Nat × Nat)) : List Value := ps.flatMap fun p => [.int .i64 (p.1 : Int), .int .i64 (p.2 : Int)]
theorem length_ccells (ps : List (Nat × Nat)) : (ccells ps).length = ps.length * 2 := by
  induction ps with
  | nil => rfl
  | cons p ps ih =>
    have : ccells (p :: ps) = [.int .i64 (p.1 : Int), .int .i64 (p.2 : Int)] ++ ccells ps := rfl
    rw [this, List.length_append, ih]
    simp; omega
theorem ccells_snoc (ps : List (Nat × Nat)) (p : Nat × Nat) : ccells (ps ++ [p]) = ccells ps ++ [.int .i64 (p.1 : Int), .int .i64 (p.2 : Int)] := by simp [ccells]
theorem ccells_take : ∀ (ps : List (Nat × Nat)) (k : Nat), ccells (ps.take k) = (ccells ps).take (k * 2)
  | _, 0 => by simp [ccells]
  | [], k + 1 => by simp [ccells]
  | p :: ps, k + 1 => by
    have e1 : ccells (p :: ps) = [.int .i64 (p.1 : Int), .int .i64 (p.2 : Int)] ++ ccells ps := rfl
    have e2 : ccells ((p :: ps).take (k + 1)) = [.int .i64 (p.1 : Int), .int .i64 (p.2 : Int)] ++ ccells (ps.take k) := rfl
    rw [e1, e2, ccells_take ps k, show (k + 1) * 2 = k * 2 + 2 by omega]
    simp
theorem ccells_get : ∀ (ps : List (Nat × Nat)) (j : Nat), j < ps.length → (ccells ps)[j * 2]? = some (.int .i64 ((ps.getD j (0, 0)).1 : Int)) ∧ (ccells ps)[j * 2 + 1]? = some (.int .i64 ((ps.getD j (0, 0)).2 : Int))
  | [], j, h => absurd h (by simp)
  | p :: ps, 0, _ => ⟨rfl, rfl⟩
  | p :: ps, j + 1, h => by
    have ih := ccells_get ps j (by simpa using h)
    have : ccells (p :: ps) = [.int .i64 (p.1 : Int), .int .i64 (p.2 : Int)] ++ ccells ps := rfl
    rw [this, show (j + 1) * 2 = j * 2 + 2 by omega, show j * 2 + 2 + 1 = (j * 2 + 1) + 2 by omega]
    constructor
    · rw [List.getElem?_append_right (by simp)]
      simpa using ih.1
    · rw [List.getElem?_append_right (by simp)]
      simpa using ih.2
abbrev OwnC (base : Nat) (w : World) (v : Value) (ps : List (Nat × Nat)) : Prop := w.ownsRow base 109 2 v ps.length (ccells ps)
theorem push_cc (w : World) (base : Nat) (v : Value) (ps : List (Nat × Nat)) (h : OwnC base w v ps) (p : Nat × Nat) (hx : ps.length ≤ 1000000000000) (hb : base ≤ w.heap.size) :
    ∃ A' c' w', (Builtin.append_ #[98, 98] 98 #[v, .slice (some ⟨w.heap.size, 0, none⟩) 1 1]).run Try.prog (w.alloc (.cells #[.int .i64 (p.1 : Int), .int .i64 (p.2 : Int)] 109)) = .ok (.slice A' (ps.length + 1) c') w' ∧ OwnC base w' (.slice A' (ps.length + 1) c') (ps ++ [p]) ∧
      w.grownBy w' v.ownBlock ∧ ∀ r, (Value.slice A' (ps.length + 1) c').ownBlock = some r → v.ownBlock = some r ∨ w.heap.size ≤ r := by
  obtain ⟨i, hi, hz, hs, hby⟩ := info102p
  have hal : Below w.heap.size w (w.alloc (.cells #[.int .i64 (p.1 : Int), .int .i64 (p.2 : Int)] 109)) := (Below.refl _ _).alloc (Nat.le_refl _) _
  obtain ⟨v', w', hr, hown', hg, -, hw⟩ := run_append_own_at (P := Try.prog) (w.alloc (.cells #[.int .i64 (p.1 : Int), .int .i64 (p.2 : Int)] 109)) base 98 98 109 i (.agg #[.int .i64 0, .int .i64 0]) 2 16 Try.underlying98 hi hz hs hby rfl (by omega) v ps.length (ccells ps) (owns_below h hal) ⟨w.heap.size, 0, none⟩ 1 1 [.int .i64 (p.1 : Int), .int .i64 (p.2 : Int)] rfl
    (fun j u hj => by
      rw [Addr.add_lit, cell_of_row _ _ _ _ _ _ (heap_alloc_new w _), Nat.zero_add]
      simpa using hj) (fun u hu => by
      have : u = .int .i64 (p.1 : Int) ∨ u = .int .i64 (p.2 : Int) := by simpa using hu
      rcases this with rfl | rfl <;> rfl) (by unfold maxLen; omega) (by omega) (by have := hal.size; omega)
  obtain ⟨A', c', rfl⟩ := owns_form2 hown'
  refine ⟨A', c', w', hr, ?_, ?_, fun r hr' => ?_⟩
  · unfold OwnC
    rw [List.length_append, ccells_snoc]
    exact hown'
  · exact ⟨hg.os, hg.tape, hg.output, Nat.le_trans hal.size hg.size, fun k hk hne => (hg.block k (Nat.lt_of_lt_of_le hk hal.size) hne).trans (hal.block k hk)⟩
  · rcases hw with hw | hw
    · exact .inl (by rw [← hw]; exact hr')
    · rw [hw] at hr'
      cases hr'
      exact .inr hal.size
theorem OwnC.cell {base : Nat} {w : World} {v : Value} {ps : List (Nat × Nat)} (h : OwnC base w v ps) (hn : 0 < ps.length) : ∃ g c, v = .slice (some ⟨g, 0, none⟩) ps.length c ∧ base ≤ g ∧ g < w.heap.size ∧ ps.length ≤ c ∧ ∀ k, k < ps.length → w.cell? ⟨g, k * 2, none⟩ = some (.int .i64 ((ps.getD k (0, 0)).1 : Int)) ∧ w.cell? ⟨g, k * 2 + 1, none⟩ = some (.int .i64 ((ps.getD k (0, 0)).2 : Int)) := by
  obtain ⟨hl, h⟩ := h
  rcases h with ⟨-, h0⟩ | ⟨g, cap, cur, rfl, hb, hc, h1, hm, hs, ht⟩
  · omega
  · refine ⟨g, cap, rfl, hb, (Array.getElem?_eq_some_iff.1 hc).1, h1, fun k hk => ?_⟩
    have hg := ccells_get ps k hk
    have h2 : ∀ j, j < ps.length * 2 → cur[j]? = (ccells ps)[j]? := fun j hj => by
      have h3 : (cur.toList.take (ps.length * 2))[j]? = (ccells ps)[j]? := by rw [ht]
      rw [List.getElem?_take, if_pos hj] at h3
      simpa using h3
    rw [cell_of_row _ _ _ _ _ _ hc, cell_of_row _ _ _ _ _ _ hc, h2 _ (by omega), h2 _ (by omega)]
    exact hg
theorem OwnC.take {base : Nat} {w : World} {A : Option Addr} {n c : Nat} {ps : List (Nat × Nat)} (h : OwnC base w (.slice A n c) ps) {k : Nat} (hk : k ≤ ps.length) : OwnC base w (.slice A k c) (ps.take k) := by
  obtain ⟨hl, h⟩ := h
  have hlen : (ps.take k).length = k := by rw [List.length_take]; omega
  rcases h with ⟨e, h0⟩ | ⟨g, cap, cur, e, hb, hc, h1, hm, hs, ht⟩
  · injection e with e1 e2 e3
    subst e1; subst e2; subst e3
    have : ps = [] := List.length_eq_zero_iff.1 h0
    subst this
    obtain rfl : k = 0 := by simpa using hk
    exact World.ownsRow_nil _ _ _ _
  · injection e with e1 e2 e3
    subst e1; subst e2; subst e3
    refine ⟨by rw [length_ccells], .inr ⟨g, c, cur, by rw [hlen], hb, hc, by omega, hm, hs, ?_⟩⟩
    rw [hlen, ccells_take, ← ht, List.take_take, Nat.min_eq_left (by omega)]
structure BoxF (T : TypeId) (ex : List Value) (b wd lim : Nat) (w : World) (s : St) (vr vp vq vk : Value) : Prop where
  box : w.heap[b]? = some (.cells (#[.int .i64 (wd : Int), .int .i64 (lim : Int), vr, vp, vq, vk, .int .i64 s.live, .int .i64 s.most] ++ ex.toArray) T (0, 0))
structure TyF (T : TypeId) : Prop where
  a : T ≠ 3
  b : T ≠ 24
  c : T ≠ 109
section
variable {T : TypeId} {ex : List Value} {b wd lim : Nat} {w w' : World} {s s' : St} {vr vp vq vk : Value}
theorem BoxF.cells (h : BoxF T ex b wd lim w s vr vp vq vk) : w.cell? ⟨b, 0, none⟩ = some (.int .i64 (wd : Int)) ∧ w.cell? ⟨b, 1, none⟩ = some (.int .i64 (lim : Int)) ∧ w.cell? ⟨b, 2, none⟩ = some vr ∧ w.cell? ⟨b, 3, none⟩ = some vp ∧ w.cell? ⟨b, 4, none⟩ = some vq ∧ w.cell? ⟨b, 5, none⟩ = some vk ∧ w.cell? ⟨b, 6, none⟩ = some (.int .i64 s.live) ∧ w.cell? ⟨b, 7, none⟩ = some (.int .i64 s.most) := by
  have hc := h.box
  refine ⟨?_, ?_, ?_, ?_, ?_, ?_, ?_, ?_⟩ <;> (rw [cell_of_row _ _ _ _ _ _ hc]; simp)
theorem BoxF.more (h : BoxF T ex b wd lim w s vr vp vq vk) {k : Nat} {v : Value} (hv : ex[k]? = some v) : w.cell? ⟨b, 8 + k, none⟩ = some v := by
  rw [cell_of_row _ _ _ _ _ _ h.box, Array.getElem?_append_right (by simp)]
  simpa using hv
theorem BoxF.lt (h : BoxF T ex b wd lim w s vr vp vq vk) : b < w.heap.size := (Array.getElem?_eq_some_iff.1 h.box).1
theorem BoxF.below (h : BoxF T ex b wd lim w s vr vp vq vk) (hb : Below w.heap.size w w') : BoxF T ex b wd lim w' s vr vp vq vk := ⟨(hb.block _ h.lt).trans h.box⟩
theorem BoxF.other (h : BoxF T ex b wd lim w s vr vp vq vk) {g : Nat} {T' : TypeId} (hg : ∃ C, w.heap[g]? = some (.cells C T' (0, 0))) (hT : T' ≠ T) (k : Nat) (v : Value) : BoxF T ex b wd lim (w.setCell ⟨g, k, none⟩ v) s vr vp vq vk :=
  ⟨(Below.heap_setCell w ⟨g, k, none⟩ v b (fun e => by
    obtain ⟨C, hC⟩ := hg
    have e' : b = g := e
    have := h.box
    rw [e', hC] at this
    cases this
    exact hT rfl)).trans h.box⟩
theorem BoxF.frozen (h : BoxF T ex b wd lim w s vr vp vq vk) (k : Nat) : w.frozen? ⟨b, k, none⟩ = false := by simp [World.frozen?, h.box]
theorem BoxF.of (h : BoxF T ex b wd lim w s vr vp vq vk) (hl : s'.live = s.live) (hm : s'.most = s.most) : BoxF T ex b wd lim w s' vr vp vq vk := ⟨by rw [hl, hm]; exact h.box⟩
theorem box_setF {w : World} {b : Nat} {C : Array Value} {T : TypeId} (hb : w.heap[b]? = some (.cells C T (0, 0))) (k : Nat) (v : Value) : (w.setCell ⟨b, k, none⟩ v).heap[b]? = some (.cells (C.setIfInBounds k v) T (0, 0)) := by
  simp [World.setCell, Array.getElem?_modify, hb]
theorem set_app {C : Array Value} {ex : List Value} {k : Nat} (h : k < C.size) (v : Value) : (C ++ ex.toArray).setIfInBounds k v = C.setIfInBounds k v ++ ex.toArray := by
  apply Array.ext'
  simp [Array.toList_setIfInBounds, h]
theorem BoxF.upd2 (h : BoxF T ex b wd lim w s vr vp vq vk) (v : Value) (hl : s'.live = s.live) (hm : s'.most = s.most) : BoxF T ex b wd lim (w.setCell ⟨b, 2, none⟩ v) s' v vp vq vk := ⟨by rw [box_setF h.box, set_app (by simp)]; simp [hl, hm]⟩
theorem BoxF.upd3 (h : BoxF T ex b wd lim w s vr vp vq vk) (v : Value) (hl : s'.live = s.live) (hm : s'.most = s.most) : BoxF T ex b wd lim (w.setCell ⟨b, 3, none⟩ v) s' vr v vq vk := ⟨by rw [box_setF h.box, set_app (by simp)]; simp [hl, hm]⟩
theorem BoxF.upd4 (h : BoxF T ex b wd lim w s vr vp vq vk) (v : Value) (hl : s'.live = s.live) (hm : s'.most = s.most) : BoxF T ex b wd lim (w.setCell ⟨b, 4, none⟩ v) s' vr vp v vk := ⟨by rw [box_setF h.box, set_app (by simp)]; simp [hl, hm]⟩
theorem BoxF.upd5 (h : BoxF T ex b wd lim w s vr vp vq vk) (v : Value) (hl : s'.live = s.live) (hm : s'.most = s.most) : BoxF T ex b wd lim (w.setCell ⟨b, 5, none⟩ v) s' vr vp vq v := ⟨by rw [box_setF h.box, set_app (by simp)]; simp [hl, hm]⟩
theorem BoxF.upd6 (h : BoxF T ex b wd lim w s vr vp vq vk) {z : Int} (hl : s'.live = z) (hm : s'.most = s.most) : BoxF T ex b wd lim (w.setCell ⟨b, 6, none⟩ (.int .i64 z)) s' vr vp vq vk := ⟨by rw [box_setF h.box, set_app (by simp)]; simp [hl, hm]⟩
theorem BoxF.upd7 (h : BoxF T ex b wd lim w s vr vp vq vk) {z : Int} (hl : s'.live = s.live) (hm : s'.most = z) : BoxF T ex b wd lim (w.setCell ⟨b, 7, none⟩ (.int .i64 z)) s' vr vp vq vk := ⟨by rw [box_setF h.box, set_app (by simp)]; simp [hl, hm]⟩
theorem BoxF.grown (h : BoxF T ex b wd lim w s vr vp vq vk) {o : Option Nat} (hg : w.grownBy w' o) (hn : o ≠ some b) : BoxF T ex b wd lim w' s vr vp vq vk := ⟨(hg.block b h.lt (Ne.symm hn)).trans h.box⟩
end
def Keeps (base : Nat) (K : Nat → Prop) (w w' : World) : Prop := Below base w w' ∧ ∀ k, K k → w'.heap[k]? = w.heap[k]?
section
variable {base : Nat} {K : Nat → Prop} {w w1 w2 : World}
theorem Keeps.refl (base : Nat) (K : Nat → Prop) (w : World) : Keeps base K w w := ⟨Below.refl _ _, fun _ _ => rfl⟩
theorem Keeps.trans (h : Keeps base K w w1) (h2 : Keeps base K w1 w2) : Keeps base K w w2 := ⟨h.1.trans h2.1, fun k hk => (h2.2 k hk).trans (h.2 k hk)⟩
theorem Keeps.size (h : Keeps base K w w1) : w.heap.size ≤ w1.heap.size := h.1.size
theorem Keeps.setCell (h : Keeps base K w w1) {p : Addr} (hp : base ≤ p.block) (hK : ¬ K p.block) (v : Value) : Keeps base K w (w1.setCell p v) := ⟨h.1.setCell hp v, fun k hk => (Below.heap_setCell w1 p v k fun e => hK (by rw [← e]; exact hk)).trans (h.2 k hk)⟩
theorem Keeps.grown (h : Keeps base K w w1) {o : Option Nat} (hg : w1.grownBy w2 o) (hbw : base ≤ w1.heap.size) (hr : ∀ r, o = some r → base ≤ r) (hlt : ∀ k, K k → k < w1.heap.size) (hK : ∀ r, o = some r → ¬ K r) : Keeps base K w w2 := ⟨h.1.grown hg hbw hr, fun k hk => (hg.block k (hlt k hk) fun e => hK k e.symm hk).trans (h.2 k hk)⟩
theorem Keeps.all (h : Below w.heap.size w w1) (hbw : base ≤ w.heap.size) (hlt : ∀ k, K k → k < w.heap.size) : Keeps base K w w1 := ⟨h.mono hbw, fun k hk => h.block k (hlt k hk)⟩
theorem Keeps.drew (h : Keeps base K w w1) : Keeps base K w w1.drew := ⟨h.1.drew, h.2⟩
end
structure Free (K : Nat → Prop) (w : World) (b : Nat) (vr vp vq vk : Value) (bl : Nat → Nat) (n : Nat) : Prop where
  lt : ∀ k, K k → k < w.heap.size
  box : ¬ K b
  r : ∀ k, vr.ownBlock = some k → ¬ K k
  p : ∀ k, vp.ownBlock = some k → ¬ K k
  q : ∀ k, vq.ownBlock = some k → ¬ K k
  k : ∀ k, vk.ownBlock = some k → ¬ K k
  row : ∀ i, i < n → ¬ K (bl i)
theorem Free.mono {K : Nat → Prop} {w w' : World} {b : Nat} {vr vp vq vk : Value} {bl : Nat → Nat} {n : Nat} (h : Free K w b vr vp vq vk bl n) (hs : w.heap.size ≤ w'.heap.size) : Free K w' b vr vp vq vk bl n := ⟨fun k hk => Nat.lt_of_lt_of_le (h.lt k hk) hs, h.box, h.r, h.p, h.q, h.k, h.row⟩
def StFB (K : Nat → Prop) (T : TypeId) (ex : List Value) (bl cs : Nat → Nat) (base b wd lim : Nat) (w : World) (f : FS) : Prop := base ≤ b ∧ ∃ P vr vp vq vk, BoxF T ex b wd lim w f.s vr vp vq vk ∧ CoreM base w f.s P vr vp vq bl cs ∧ OwnC base w vk f.k ∧ Free K w b vr vp vq vk bl f.s.t.length
def StF (K : Nat → Prop) (T : TypeId) (ex : List Value) (base b wd lim : Nat) (w : World) (f : FS) : Prop := ∃ bl cs, StFB K T ex bl cs base b wd lim w f
theorem StFB.lt {K : Nat → Prop} {T : TypeId} {ex : List Value} {bl cs : Nat → Nat} {base b wd lim : Nat} {w : World} {f : FS} (h : StFB K T ex bl cs base b wd lim w f) : ∀ k, K k → k < w.heap.size := by
  obtain ⟨-, P, vr, vp, vq, vk, -, -, -, hF⟩ := h
  exact hF.lt
section
variable {base : Nat} {w w' : World} {v : Value} {ps : List (Nat × Nat)}
theorem OwnC.other (h : OwnC base w v ps) {b : Nat} {C0 : Array Value} {T : TypeId} (hb : w.heap[b]? = some (.cells C0 T (0, 0))) (hT : T ≠ 109) (k : Nat) (x : Value) : OwnC base (w.setCell ⟨b, k, none⟩ x) v ps :=
  owns_keep h fun r hr => Below.heap_setCell w ⟨b, k, none⟩ x r fun e => by
    obtain ⟨-, C, hC⟩ := owns_block2 h r hr
    have e' : r = b := e
    rw [e', hb] at hC
    cases hC
    exact hT rfl
theorem OwnC.grown (h : OwnC base w v ps) {o : Option Nat} (hg : w.grownBy w' o) (hn : ∀ r, o = some r → ∃ C T, w.heap[r]? = some (.cells C T (0, 0)) ∧ T ≠ 109) : OwnC base w' v ps :=
  owns_keep h fun r hr => by
    obtain ⟨-, C, hC⟩ := owns_block2 h r hr
    refine hg.block r (Array.getElem?_eq_some_iff.1 hC).1 fun e => ?_
    obtain ⟨C', T', h1, h2⟩ := hn r e.symm
    rw [hC] at h1
    cases h1
    exact h2 rfl
end
end Go.Proofs
