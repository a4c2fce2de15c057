/- Plain: an elimination, a shortening step, what a presentation is simplified to; Free reduction, plainly: words up to cancelling; Plain: clean relators are cyclically reduced, short, and of the presentation's letters; Plain: eliminations and shortening steps lead to presentations in their normal form; Rewriting in a Schreier system, plainly: products, tree words, telescoping (the law of RewriteBack); Orders of groups by a record of an enumeration: how a record is checked, and what it proves; Schreier generators, plainly: how many there are, and that they generate the subgroup (the law of RewriteGenerates). -/
import Derived.Test.YtmmbmhjdnlmedaaTsCS7
import Derived.Test.YtmmbmhjdnlmedaaTsCS6
import Derived.Test.YtmmbmhjdnlmedaaTsCS2
namespace Go.Proofs.Tz
open Go.Proofs.Ct (W red inv mulW invW opp foldTo)
def isG (g x : Int) : Bool := decide (x = g) || decide (x = -g)
/-- where a generator occurs once in a word -/
def onceW (w : W) (g : Int) : Option Nat := if w.countP (isG g) = 1 then some (w.findIdx (isG g)) else none
def lowI (g x : Int) : Int := if x > g then x - 1 else if x < -g then x + 1 else x
def lowW (g : Int) (w : W) : W := w.map (lowI g)
def imgW (r : W) (at_ : Nat) : W := let v := mulW (invW (r.take at_)) (invW (r.drop (at_ + 1))); if r.getD at_ 0 < 0 then invW v else v
def imgsW (n gen : Nat) (v : W) : List W := (List.range n).map fun i => if i + 1 = gen then lowW gen v else lowW gen [(i : Int) + 1]
/-- letters are replaced by words -/
def sbTo (G : List W) (z : W) (k : Nat) : W := foldTo (fun k out => mulW out (if 0 < z.getD k 0 then G.getD (z.getD k 0 - 1).toNat [] else inv (G.getD (-(z.getD k 0) - 1).toNat []))) k []
def sbW (G : List W) (z : W) : W := sbTo G z z.length
/-- all words of a list with their letters replaced; none: a word is too long -/
def sbL (G : List W) (l : List W) : Option (List W) := if l.all (fun z => decide ((sbW G z).length ≤ 4000)) then some (l.map (sbW G)) else none
def lenL (l : List W) : Nat := (l.map List.length).sum
/-- an elimination: the relators and the images that it leads to (of a valid presentation with n generators); an error -/
def elimE (n : Nat) (rels : List W) (rel gen : Nat) : (List W × List W) ⊕ Int :=
  match onceW (rels.getD rel []) gen with
  | none => .inr 13
  | some at_ => if n = 1 then .inr 13 else
    let v := imgW (rels.getD rel []) at_
    if 1000 < v.length then .inr 4 else
    match sbL (imgsW n gen v) (rels.eraseIdx rel) with
    | none => .inr 4
    | some l => if 4000 < lenL l then .inr 4 else .inl (cleanL l, imgsW n gen v)
/-- s by a word w that holds -/
def headsB (s : W) (k : Nat) (h : W) : Bool := (List.range h.length).all fun i => decide (s.getD ((k + i) % s.length) 0 = h.getD i 0)
def shortW (s w : W) : Option W :=
  let h := w.length / 2 + 1
  if h ≤ s.length then
    match (List.range s.length).find? (fun k => headsB s k (w.take h)) with
    | some k => some (mulW (invW (w.drop h)) ((rot s k).drop h))
    | none => none
  else none
def turnsW (r : W) : List W := (List.range r.length).map (rot r) ++ (List.range (invW r).length).map (rot (invW r))
def pairsN (n : Nat) : List (Nat × Nat) := ((List.range n).map fun i => ((List.range n).filter fun k => k != i).map fun k => (i, k)).flatten
/-- a shortening step -/
def shortF (rels : List W) : Option (List W) :=
  (pairsN rels.length).findSome? fun ik => (turnsW (rels.getD ik.1 [])).findSome? fun t => (shortW (rels.getD ik.2 []) t).map fun s => cleanL (rels.set ik.2 s)
/-- the first elimination that can be made -/
def firstE (n : Nat) (rels : List W) : Option ((List W × List W) × Nat) :=
  (List.range rels.length).findSome? fun i => ((List.range n).map fun j => n - j).findSome? fun gen =>
    match elimE n rels i gen with
    | .inl q => some (q, gen)
    | .inr _ => none
structure Sp where
  n : Nat
  rels : List W
  into : List W
  back : List Int
def Sp.elim (s : Sp) : Option (Sp ⊕ Unit) :=
  match firstE s.n s.rels with
  | none => none
  | some (q, gen) => some (match sbL q.2 s.into with
    | none => .inr ()
    | some l => .inl ⟨s.n - 1, q.1, l, s.back.eraseIdx (gen - 1)⟩)
def simpTo : Nat → Sp → Sp ⊕ Unit
  | 0, s => .inl s
  | k + 1, s =>
    match s.elim with
    | some (.inl s') => simpTo k s'
    | some (.inr u) => .inr u
    | none =>
      match shortF s.rels with
      | some l => simpTo k { s with rels := l }
      | none => .inl s
def sp0 (n : Nat) (rels : List W) : Sp := ⟨n, rels, (List.range n).map fun (i : Nat) => [(i : Int) + 1], (List.range n).map fun (i : Nat) => (i : Int) + 1⟩
def simpE (n : Nat) (rels : List W) (steps : Nat) : Sp ⊕ Unit := simpTo steps (sp0 n (cleanL rels))
example : (match simpE 3 [[3, -2, -1], [1, 1], [2, 2, 2], [3, 3]] 100 with | .inl s => (s.n, s.rels, s.into, s.back) | .inr _ => (0, [], [], [])) = (2, [[1, 1], [2, 2, 2], [1, 2, 1, 2]], [[1], [2], [1, 2]], [1, 2]) := by decide +kernel
example : (match elimE 2 [[1, 2, 2], [1, 1, 1]] 0 1 with | .inl q => q | .inr _ => ([], [])) = ([[1, 1, 1, 1, 1, 1]], [[-1, -1], [1]]) := by decide +kernel
example : shortF (cleanL [[1, 1, 1], [1, 1, 2]]) = some [[1, -2], [1, 1, 1]] := by decide +kernel
example : shortF (cleanL [[1, 1]]) = none := by decide +kernel
end Go.Proofs.Tz
namespace Go.Proofs.Ct
def pushL (st w : W) : W := w.foldl push st
theorem pushL_append (st a b : W) : pushL st (a ++ b) = pushL (pushL st a) b := List.foldl_append ..
theorem pushL_one (st : W) (x : Int) : pushL st [x] = push st x := rfl
theorem take_snoc0 {w : W} {k : Nat} (h : k < w.length) : w.take (k + 1) = w.take k ++ [w.getD k 0] := by
  rw [List.take_succ_eq_append_getElem h, List.getD_eq_getElem?_getD, List.getElem?_eq_getElem h]; rfl
theorem redTo_fold (w : W) : ∀ k, k ≤ w.length → redTo w k = pushL [] (w.take k)
  | 0, _ => rfl
  | k + 1, h => by
    show push (redTo w k) (w.getD k 0) = _
    rw [redTo_fold w k (by omega), take_snoc0 (by omega), pushL_append]
    rfl
theorem red_fold (w : W) : red w = pushL [] w := by
  unfold red
  rw [redTo_fold w _ (Nat.le_refl _), List.take_length]
theorem push_nil (x : Int) : push [] x = [x] := rfl
theorem push_snoc (st : W) (y x : Int) : push (st ++ [y]) x = if opp y x = true then st else st ++ [y] ++ [x] := by
  unfold push
  have h1 : (st ++ [y]).length - 1 = st.length := by simp
  rw [h1]
  have h2 : (st ++ [y]).getD st.length 0 = y := by simp [List.getD_eq_getElem?_getD]
  rw [h2]
  have h3 : (st ++ [y]).take st.length = st := by simp
  rw [h3]
  by_cases h : opp y x = true
  · rw [if_pos h, if_pos (by simp [h])]
  · rw [if_neg h, if_neg (by simp [h])]
theorem opp_iff {x y : Int} : opp x y = true ↔ x ≠ 0 ∧ y = -x := by
  unfold opp
  simp
/-- no two neighbours cancel -/
def Rd (st : W) : Prop := ∀ a x y b, st = a ++ [x] ++ [y] ++ b → opp x y = false
theorem Rd.nil : Rd [] := fun a x y b h => by simp at h
theorem Rd.one (x : Int) : Rd [x] := fun a p q b h => by
  have := congrArg List.length h
  simp at this
  omega
theorem Rd.init {st : W} {y : Int} (h : Rd (st ++ [y])) : Rd st := fun a p q b e => h a p q (b ++ [y]) (by rw [e]; simp)
theorem Rd.last {st : W} {x y : Int} (h : Rd (st ++ [x] ++ [y])) : opp x y = false := h st x y [] (by simp)
theorem Rd.snoc {st : W} {x y : Int} (h : Rd (st ++ [x])) (hn : opp x y = false) : Rd (st ++ [x] ++ [y]) := fun a p q b e => by
  rcases List.eq_nil_or_concat b with rfl | ⟨b', z, rfl⟩
  · rw [List.append_nil] at e
    have h1 := List.append_inj' e rfl
    have h2 := List.append_inj' h1.1 rfl
    have e1 := List.cons.inj h1.2
    have e2 := List.cons.inj h2.2
    rw [← e1.1, ← e2.1]
    exact hn
  · rw [List.concat_eq_append, ← List.append_assoc] at e
    have h1 := List.append_inj' e rfl
    exact h a p q b' h1.1
theorem Rd.push {st : W} (h : Rd st) (x : Int) : Rd (push st x) := by
  rcases List.eq_nil_or_concat st with rfl | ⟨s, y, rfl⟩
  · exact Rd.one x
  · rw [List.concat_eq_append] at h ⊢
    rw [push_snoc]
    split
    · exact h.init
    · rename_i hn
      exact h.snoc (by simpa using hn)
theorem Rd.pushL {st : W} (h : Rd st) : ∀ (w : W), Rd (pushL st w) := fun w => by
  induction w generalizing st with
  | nil => exact h
  | cons x w ih => exact ih (h.push x)
theorem rd_red (w : W) : Rd (red w) := by rw [red_fold]; exact Rd.nil.pushL w
theorem push_back {st : W} (h : Rd st) {x : Int} (hx : x ≠ 0) : push (push st x) (-x) = st := by
  rcases List.eq_nil_or_concat st with rfl | ⟨s, y, rfl⟩
  · rw [push_nil, ← List.nil_append [x], push_snoc, if_pos (opp_iff.2 ⟨hx, rfl⟩)]
  · rw [List.concat_eq_append] at h ⊢
    rw [push_snoc]
    by_cases ho : opp y x = true
    · rw [if_pos ho]
      obtain ⟨hy, rfl⟩ := opp_iff.1 ho
      rw [Int.neg_neg]
      rcases List.eq_nil_or_concat s with rfl | ⟨s', z, rfl⟩
      · rfl
      · rw [List.concat_eq_append] at h ⊢
        rw [push_snoc, if_neg (by rw [h.last]; simp)]
    · rw [if_neg ho, push_snoc, if_pos (opp_iff.2 ⟨hx, rfl⟩)]
/-- no letter is 0 -/
def Nz (w : W) : Prop := ∀ x ∈ w, x ≠ 0
theorem Nz.app {a b : W} (ha : Nz a) (hb : Nz b) : Nz (a ++ b) := fun x hx => (List.mem_append.1 hx).elim (ha x) (hb x)
theorem Nz.left {a b : W} (h : Nz (a ++ b)) : Nz a := fun x hx => h x (List.mem_append.2 (.inl hx))
theorem Nz.red {a : W} (h : Nz a) : Nz (red a) := fun x hx => h x (red_mem hx)
theorem Nz.inv {a : W} (h : Nz a) : Nz (inv a) := fun x hx => by
  have := h _ (mem_inv hx)
  omega
theorem Nz.nil : Nz [] := fun x hx => by cases hx
theorem Nz.one {x : Int} (h : x ≠ 0) : Nz [x] := fun y hy => by
  rw [List.mem_singleton.1 hy]; exact h
theorem red_snoc (b : W) (x : Int) : red (b ++ [x]) = push (red b) x := by rw [red_fold, red_fold, pushL_append]; rfl
theorem pushL_red {st : W} (h : Rd st) : ∀ (n : Nat) (b : W), b.length = n → Nz b → pushL st (red b) = pushL st b
  | 0, b, hb, _ => by rw [List.length_eq_zero_iff.1 hb]; rfl
  | n + 1, b, hb, hz => by
    rcases List.eq_nil_or_concat b with rfl | ⟨c, x, rfl⟩
    · cases hb
    · rw [List.concat_eq_append] at hb hz ⊢
      have ih := pushL_red h n c (by simpa using hb) hz.left
      rw [red_snoc, pushL_append st c, pushL_one]
      rcases List.eq_nil_or_concat (red c) with hr | ⟨d, y, hr⟩
      · rw [hr] at ih ⊢
        rw [← ih]
        rfl
      · rw [List.concat_eq_append] at hr
        rw [hr] at ih ⊢
        rw [← ih, push_snoc]
        by_cases ho : opp y x = true
        · rw [if_pos ho]
          obtain ⟨hy, rfl⟩ := opp_iff.1 ho
          rw [pushL_append, pushL_one, push_back (h.pushL d) hy]
        · rw [if_neg ho, pushL_append]
          rfl
theorem pushL_red' {st : W} (h : Rd st) {b : W} (hz : Nz b) : pushL st (red b) = pushL st b := pushL_red h _ b rfl hz
theorem red_left {a : W} (b : W) (h : Nz a) : red (red a ++ b) = red (a ++ b) := by
  rw [red_fold, red_fold (a ++ b), pushL_append, pushL_append, pushL_red' Rd.nil h]
theorem red_right (a : W) {b : W} (h : Nz b) : red (a ++ red b) = red (a ++ b) := by
  rw [red_fold, red_fold (a ++ b), pushL_append, pushL_append, pushL_red' (Rd.nil.pushL a) h]
/-- equal in the free group -/
def Fe (a b : W) : Prop := red a = red b
theorem Fe.rfl' {a : W} : Fe a a := rfl
theorem Fe.symm {a b : W} (h : Fe a b) : Fe b a := Eq.symm h
theorem Fe.trans {a b c : W} (h : Fe a b) (k : Fe b c) : Fe a c := Eq.trans h k
theorem Fe.app {a b c d : W} (h : Fe a b) (k : Fe c d) (ha : Nz a) (hb : Nz b) (hc : Nz c) (hd : Nz d) : Fe (a ++ c) (b ++ d) := by
  show red (a ++ c) = red (b ++ d)
  rw [← red_left c ha, ← red_right _ hc, h, k, red_right _ hd, red_left d hb]
theorem LOk.nz {g : Nat} {w : W} (h : LOk g w) : Nz w := fun x hx => (h x hx).2.2
theorem fe_pair {x : Int} (h : x ≠ 0) : Fe [x, -x] [] := by
  show red ([x] ++ [-x]) = []
  rw [red_snoc]
  show push (push [] x) (-x) = []
  exact push_back Rd.nil h
theorem fe_inv : ∀ {a : W}, Nz a → Fe (a ++ inv a) []
  | [], _ => rfl
  | x :: a, h => by
    have hx : x ≠ 0 := h x (by simp)
    have ha : Nz a := fun y hy => h y (by simp [hy])
    rw [inv_cons]
    have ih := fe_inv ha
    have e : x :: a ++ (inv a ++ [-x]) = [x] ++ (a ++ inv a) ++ [-x] := by simp
    rw [e]
    have h1 : Fe ([x] ++ (a ++ inv a)) [x] := Fe.app (b := [x]) (d := []) Fe.rfl' ih (Nz.one hx) (Nz.one hx) (ha.app ha.inv) Nz.nil
    have h2 := h1.app (Fe.rfl' (a := [-x])) ((Nz.one hx).app (ha.app ha.inv)) (Nz.one hx) (Nz.one (by omega)) (Nz.one (by omega))
    exact h2.trans (fe_pair hx)
theorem fe_inv' {a : W} (h : Nz a) : Fe (inv a ++ a) [] := by
  have := fe_inv h.inv
  rwa [inv_inv] at this
theorem Fe.inv {a b : W} (h : Fe a b) (ha : Nz a) (hb : Nz b) : Fe (Ct.inv a) (Ct.inv b) := by
  -- inv a = inv a b inv b = inv a a inv b = inv b
  have h1 : Fe (Ct.inv a ++ (b ++ Ct.inv b)) (Ct.inv a ++ []) := Fe.app Fe.rfl' (fe_inv hb) ha.inv ha.inv (hb.app hb.inv) Nz.nil
  rw [List.append_nil] at h1
  have h2 : Fe (Ct.inv a ++ a ++ Ct.inv b) (Ct.inv a ++ b ++ Ct.inv b) := Fe.app (Fe.app Fe.rfl' h ha.inv ha.inv ha hb) Fe.rfl' (ha.inv.app ha) (ha.inv.app hb) hb.inv hb.inv
  have h3 : Fe (Ct.inv a ++ a ++ Ct.inv b) ([] ++ Ct.inv b) := Fe.app (fe_inv' ha) Fe.rfl' (ha.inv.app ha) Nz.nil hb.inv hb.inv
  rw [List.append_assoc] at h2
  rw [List.append_assoc (Ct.inv a) b] at h2
  rw [List.append_assoc] at h3
  exact (h1.symm.trans h2.symm).trans h3
end Go.Proofs.Ct
namespace Go.Proofs.Tz
open Go.Proofs.Ct (W red inv mulW invW opp foldTo push redTo LOk)
theorem opp_iff' {x y : Int} : opp x y = true ↔ x ≠ 0 ∧ y = -x := Ct.opp_iff
theorem opp_false {x y : Int} : opp x y = false ↔ x = 0 ∨ y ≠ -x := by
  rw [← Bool.not_eq_true, opp_iff']
  omega
theorem opp_swap (x y : Int) : opp y x = opp x y := by
  cases h : opp x y with
  | true => rw [opp_iff'] at h ⊢; omega
  | false => rw [opp_false] at h ⊢; omega
theorem opp_neg (x y : Int) : opp (-y) (-x) = opp x y := by
  cases h : opp x y with
  | true => rw [opp_iff'] at h ⊢; omega
  | false => rw [opp_false] at h ⊢; omega
/-- reduced; cyclically reduced -/
def RdI (w : W) : Prop := ∀ i, i + 1 < w.length → opp (w.getD i 0) (w.getD (i + 1) 0) = false
def CyI (w : W) : Prop := ∀ i, i < w.length → opp (w.getD i 0) (w.getD ((i + 1) % w.length) 0) = false
theorem CyI.rd {w : W} (h : CyI w) : RdI w := fun i hi => by
  have := h i (by omega)
  rwa [Nat.mod_eq_of_lt hi] at this
theorem red_of_rd {w : W} (h : RdI w) : red w = w := by
  have key : ∀ k, k ≤ w.length → redTo w k = w.take k := by
    intro k
    induction k with
    | zero => intro _; rfl
    | succ k ih =>
      intro hk
      show push (redTo w k) (w.getD k 0) = _
      rw [ih (by omega), Ct.take_snoc0 (by omega)]
      unfold push
      rw [List.length_take, Nat.min_eq_left (by omega)]
      rcases Nat.eq_zero_or_pos k with e | e
      · subst e; rfl
      · have h1 := h (k - 1) (by omega)
        rw [show k - 1 + 1 = k by omega] at h1
        have h2 : (w.take k).getD (k - 1) 0 = w.getD (k - 1) 0 := by
          simp [List.getD_eq_getElem?_getD, show k - 1 < k by omega]
        rw [h2, h1, Bool.and_false, if_neg (by simp)]
  have := key w.length (Nat.le_refl _)
  rwa [List.take_length] at this
theorem rd_of_red (w : W) : RdI (red w) := fun i hi => by
  have h := Ct.rd_red w
  generalize red w = v at *
  refine h (v.take i) _ _ (v.drop (i + 2)) ?_
  have e1 : v.take (i + 2) = v.take i ++ [v.getD i 0] ++ [v.getD (i + 1) 0] := by
    rw [show i + 2 = (i + 1) + 1 by omega, Ct.take_snoc0 (by omega), Ct.take_snoc0 (by omega)]
  rw [← e1, List.take_append_drop]
theorem getD_drop0 (w : W) (k i : Nat) : (w.drop k).getD i 0 = w.getD (k + i) 0 := by simp [List.getD_eq_getElem?_getD, List.getElem?_drop]
theorem getD_take0 {w : W} {k i : Nat} (h : i < k) : (w.take k).getD i 0 = w.getD i 0 := by simp [List.getD_eq_getElem?_getD, h]
theorem RdI.drop {w : W} (h : RdI w) (k : Nat) : RdI (w.drop k) := fun i hi => by
  rw [List.length_drop] at hi
  rw [getD_drop0, getD_drop0]
  exact h (k + i) (by omega)
theorem RdI.take {w : W} (h : RdI w) (k : Nat) : RdI (w.take k) := fun i hi => by
  rw [List.length_take] at hi
  rw [getD_take0 (by omega), getD_take0 (by omega)]
  exact h i (by omega)
theorem length_rot (w : W) {k : Nat} (h : k ≤ w.length) : (rot w k).length = w.length := by unfold rot; rw [List.length_append, List.length_drop, List.length_take]; omega
theorem getD_rot {w : W} {k i : Nat} (hk : k ≤ w.length) (hi : i < w.length) : (rot w k).getD i 0 = w.getD ((i + k) % w.length) 0 := by
  unfold rot
  rcases Nat.lt_or_ge i (w.length - k) with h | h
  · rw [List.getD_eq_getElem?_getD, List.getElem?_append_left (by rw [List.length_drop]; exact h), ← List.getD_eq_getElem?_getD, getD_drop0, Nat.mod_eq_of_lt (by omega), Nat.add_comm]
  · rw [List.getD_eq_getElem?_getD, List.getElem?_append_right (by rw [List.length_drop]; exact h), ← List.getD_eq_getElem?_getD, List.length_drop, getD_take0 (by omega), Nat.mod_eq_sub_mod (by omega), Nat.mod_eq_of_lt (by omega)]
    congr 1
    omega
theorem CyI.rot {w : W} (h : CyI w) {k : Nat} (hk : k ≤ w.length) : CyI (Tz.rot w k) := fun i hi => by
  rw [length_rot w hk] at hi ⊢
  have hm : (i + 1) % w.length < w.length := Nat.mod_lt _ (by omega)
  rw [getD_rot hk hi, getD_rot hk hm]
  have := h ((i + k) % w.length) (Nat.mod_lt _ (by omega))
  have e : ((i + k) % w.length + 1) % w.length = ((i + 1) % w.length + k) % w.length := by
    rw [Nat.mod_add_mod, Nat.mod_add_mod]
    congr 1
    omega
  rwa [e] at this
theorem length_inv' (w : W) : (inv w).length = w.length := Ct.length_inv w
theorem getD_inv {w : W} {k : Nat} (hk : k < w.length) : (inv w).getD k 0 = -(w.getD (w.length - 1 - k) 0) := by
  unfold Ct.inv
  simp [List.getD_eq_getElem?_getD, hk, show w.length - 1 - k < w.length by omega]
theorem CyI.inv {w : W} (h : CyI w) : CyI (Ct.inv w) := fun i hi => by
  rw [length_inv'] at hi ⊢
  have hm : (i + 1) % w.length < w.length := Nat.mod_lt _ (by omega)
  rw [getD_inv hi, getD_inv hm]
  rcases Nat.lt_or_ge (i + 1) w.length with h1 | h1
  · rw [Nat.mod_eq_of_lt h1]
    have := h (w.length - 1 - (i + 1)) (by omega)
    rw [Nat.mod_eq_of_lt (by omega), show w.length - 1 - (i + 1) + 1 = w.length - 1 - i by omega] at this
    rw [opp_neg]
    exact this
  · obtain rfl : i = w.length - 1 := by omega
    have e : (w.length - 1 + 1) % w.length = 0 := by rw [show w.length - 1 + 1 = w.length by omega, Nat.mod_self]
    have := h (w.length - 1) (by omega)
    rw [e] at this
    rw [e, opp_neg, show w.length - 1 - 0 = w.length - 1 by omega, show w.length - 1 - (w.length - 1) = 0 by omega]
    exact this
theorem CyI.invW {w : W} (h : CyI w) : Ct.invW w = Ct.inv w := red_of_rd h.inv.rd
theorem RdI.inv {w : W} (h : RdI w) : RdI (Ct.inv w) := fun i hi => by
  rw [length_inv'] at hi
  rw [getD_inv (by omega), getD_inv hi, opp_neg]
  have := h (w.length - 1 - (i + 1)) (by omega)
  rwa [show w.length - 1 - (i + 1) + 1 = w.length - 1 - i by omega] at this
theorem cycTo_cy : ∀ (n : Nat) {w : W}, RdI w → w.length ≤ n → CyI (cycTo n w)
  | 0, w, _, hl => by
    obtain rfl : w = [] := List.eq_nil_of_length_eq_zero (by omega)
    exact fun i hi => absurd hi (by simp [cycTo])
  | n + 1, w, hw, hl => by
    unfold cycTo
    split
    · exact cycTo_cy n ((hw.drop 1).take _) (by rw [List.length_take, List.length_drop]; omega)
    · rename_i h
      intro i hi
      rcases Nat.lt_or_ge (i + 1) w.length with h1 | h1
      · rw [Nat.mod_eq_of_lt h1]; exact hw i h1
      · obtain rfl : i = w.length - 1 := by omega
        rw [show w.length - 1 + 1 = w.length by omega, Nat.mod_self]
        by_cases h2 : 1 < w.length
        · have : opp (w.getD 0 0) (w.getD (w.length - 1) 0) = false := by
            cases e : opp (w.getD 0 0) (w.getD (w.length - 1) 0) with
            | true => exact absurd ⟨h2, e⟩ h
            | false => rfl
          rw [opp_swap]; exact this
        · rw [show w.length - 1 = 0 by omega, opp_false]; omega
theorem cyc_cy (w : W) : CyI (cyc w) := cycTo_cy _ (rd_of_red w) (Ct.red_length w)
theorem cycTo_sub : ∀ (n : Nat) (w : W), (∀ x ∈ cycTo n w, x ∈ w) ∧ (cycTo n w).length ≤ w.length
  | 0, w => ⟨fun _ h => h, Nat.le_refl _⟩
  | n + 1, w => by
    unfold cycTo
    split
    · obtain ⟨h1, h2⟩ := cycTo_sub n ((w.drop 1).take (w.length - 2))
      rw [List.length_take, List.length_drop] at h2
      exact ⟨fun x hx => List.mem_of_mem_drop (List.mem_of_mem_take (h1 x hx)), by omega⟩
    · exact ⟨fun _ h => h, Nat.le_refl _⟩
theorem cyc_sub (w : W) : (∀ x ∈ cyc w, x ∈ w) ∧ (cyc w).length ≤ w.length := by
  obtain ⟨h1, h2⟩ := cycTo_sub w.length (red w)
  exact ⟨fun x hx => Ct.red_mem (h1 x hx), Nat.le_trans h2 (Ct.red_length w)⟩
/-- what the best of rotations is -/
theorem bestTo_is (v b : W) : ∀ k, bestTo v b k = b ∨ ∃ j, j < k ∧ bestTo v b k = rot v j
  | 0 => .inl rfl
  | k + 1 => by
    show (if cmpW (rot v k) (bestTo v b k) < 0 then rot v k else bestTo v b k) = b ∨ ∃ j, j < k + 1 ∧ (if cmpW (rot v k) (bestTo v b k) < 0 then rot v k else bestTo v b k) = rot v j
    split
    · exact .inr ⟨k, by omega, rfl⟩
    · rcases bestTo_is v b k with h | ⟨j, h1, h2⟩
      · exact .inl h
      · exact .inr ⟨j, by omega, h2⟩
theorem leastOf_is (v : W) : leastZ v = v ∨ (∃ j, j < v.length ∧ leastZ v = rot v j) ∨ ∃ j, j < (invW v).length ∧ leastZ v = rot (invW v) j := by
  unfold leastZ
  rcases bestTo_is (invW v) (bestTo v v v.length) (invW v).length with h | ⟨j, h1, h2⟩
  · rw [h]
    rcases bestTo_is v v v.length with h | ⟨j, h1, h2⟩
    · exact .inl h
    · exact .inr (.inl ⟨j, h1, h2⟩)
  · exact .inr (.inr ⟨j, h1, h2⟩)
theorem leastW_cy (w : W) : CyI (leastW w) := by
  have h := cyc_cy w
  unfold leastW
  rcases leastOf_is (cyc w) with e | ⟨j, h1, e⟩ | ⟨j, h1, e⟩ <;> rw [e]
  · exact h
  · exact h.rot (by omega)
  · rw [h.invW] at h1 ⊢
    exact h.inv.rot (by omega)
theorem length_leastW (w : W) : (leastW w).length = (cyc w).length := by
  have h := cyc_cy w
  unfold leastW
  rcases leastOf_is (cyc w) with e | ⟨j, h1, e⟩ | ⟨j, h1, e⟩ <;> rw [e]
  · exact length_rot _ (by omega)
  · rw [length_rot _ (by omega), h.invW, length_inv']
theorem mem_rot {w : W} {k : Nat} {x : Int} (h : x ∈ rot w k) : x ∈ w := by
  rcases List.mem_append.1 h with h | h
  · exact List.mem_of_mem_drop h
  · exact List.mem_of_mem_take h
theorem leastW_ok {g : Nat} {w : W} (hw : LOk g w) : LOk g (leastW w) := by
  have h : LOk g (cyc w) := fun x hx => hw x ((cyc_sub w).1 x hx)
  unfold leastW
  rcases leastOf_is (cyc w) with e | ⟨j, h1, e⟩ | ⟨j, h1, e⟩ <;> rw [e]
  · exact h
  · exact fun x hx => h x (mem_rot hx)
  · exact fun x hx => h.inv x (Ct.red_mem (mem_rot hx))
theorem leastW_len (w : W) : (leastW w).length ≤ w.length := by rw [length_leastW]; exact (cyc_sub w).2
theorem lenL_cons (x : W) (l : List W) : lenL (x :: l) = x.length + lenL l := by simp [lenL]
theorem lenL_ins (w : W) : ∀ l, lenL (ins w l) ≤ w.length + lenL l ∧ (ins w l).length ≤ l.length + 1
  | [] => by simp [ins, lenL]
  | x :: l => by
    obtain ⟨h1, h2⟩ := lenL_ins w l
    unfold ins
    split
    · rw [lenL_cons, lenL_cons, List.length_cons, List.length_cons]; omega
    · split
      · rw [List.length_cons]; omega
      · rw [lenL_cons w, List.length_cons (a := w)]; omega
theorem clean_len (rels : List W) : ∀ k, k ≤ rels.length → lenL (cleanTo rels k) ≤ lenL (rels.take k) ∧ (cleanTo rels k).length ≤ k
  | 0, _ => by simp [cleanTo, foldTo, lenL]
  | k + 1, hk => by
    obtain ⟨h1, h2⟩ := clean_len rels k (by omega)
    have e : lenL (rels.take (k + 1)) = lenL (rels.take k) + (rels.getD k []).length := by
      unfold lenL
      rw [List.take_add_one, List.getD_eq_getElem?_getD, List.getElem?_eq_getElem (show k < rels.length by omega), List.map_append, List.sum_append]
      simp
    show lenL (if leastW (rels.getD k []) = [] then cleanTo rels k else ins (leastW (rels.getD k [])) (cleanTo rels k)) ≤ _ ∧ (if leastW (rels.getD k []) = [] then cleanTo rels k else ins (leastW (rels.getD k [])) (cleanTo rels k)).length ≤ _
    have h3 := leastW_len (rels.getD k [])
    have h4 := lenL_ins (leastW (rels.getD k [])) (cleanTo rels k)
    split <;> omega
theorem mem_cleanTo {rels : List W} {z : W} : ∀ k, k ≤ rels.length → z ∈ cleanTo rels k → ∃ r ∈ rels, z = leastW r ∧ z ≠ []
  | 0, _, h => absurd h List.not_mem_nil
  | k + 1, hk, h => by
    have h' : z ∈ (if leastW (rels.getD k []) = [] then cleanTo rels k else ins (leastW (rels.getD k [])) (cleanTo rels k)) := h
    split at h'
    · exact mem_cleanTo k (by omega) h'
    · rename_i hne
      rcases mem_ins.1 h' with e | e
      · refine ⟨rels.getD k [], ?_, e, by rw [e]; exact hne⟩
        rw [List.getD_eq_getElem?_getD, List.getElem?_eq_getElem (show k < rels.length by omega)]
        exact List.getElem_mem _
      · exact mem_cleanTo k (by omega) e
/-- a presentation in its normal form -/
structure Cln (n : Nat) (rels : List W) : Prop where
  n1 : 1 ≤ n
  n16 : n ≤ 16
  many : rels.length ≤ 100
  len : lenL rels ≤ 4000
  ok : ∀ w ∈ rels, LOk n w
  cy : ∀ w ∈ rels, CyI w
  ne : ∀ w ∈ rels, w ≠ []
theorem cln_clean {n : Nat} {rels : List W} (h1 : 1 ≤ n) (h2 : n ≤ 16) (h3 : rels.length ≤ 100) (h4 : lenL rels ≤ 4000) (h5 : ∀ w ∈ rels, LOk n w) : Cln n (cleanL rels) := by
  obtain ⟨a, b⟩ := clean_len rels rels.length (Nat.le_refl _)
  rw [List.take_length] at a
  refine ⟨h1, h2, by unfold cleanL; omega, by unfold cleanL; omega, fun w hw => ?_, fun w hw => ?_, fun w hw => ?_⟩ <;> obtain ⟨r, k1, k2, k3⟩ := mem_cleanTo _ (Nat.le_refl _) hw
  · rw [k2]; exact leastW_ok (h5 r k1)
  · rw [k2]; exact leastW_cy r
  · exact k3
end Go.Proofs.Tz
namespace Go.Proofs.Tz
open Go.Proofs.Ct (W red inv mulW invW opp foldTo push redTo LOk)
theorem getD_mem' {l : List W} {j : Nat} (h : j < l.length) : l.getD j [] ∈ l := by
  rw [List.getD_eq_getElem?_getD, List.getElem?_eq_getElem h]
  exact List.getElem_mem h
theorem isG_iff {g x : Int} : isG g x = true ↔ x = g ∨ x = -g := by unfold isG; simp
theorem onceW_spec {w : W} {g : Int} {a : Nat} (h : onceW w g = some a) : a < w.length ∧ isG g (w.getD a 0) = true ∧ (∀ x ∈ w.take a, isG g x = false) ∧ ∀ x ∈ w.drop (a + 1), isG g x = false := by
  unfold onceW at h
  split at h
  · rename_i hc
    injection h with h
    have hlt : w.findIdx (isG g) < w.length := by
      rw [List.findIdx_lt_length]
      obtain ⟨x, h1, h2⟩ := List.countP_pos_iff.1 (show 0 < w.countP (isG g) by omega)
      exact ⟨x, h1, h2⟩
    rw [h] at hlt
    have hat : isG g w[a] = true := by
      have := List.findIdx_getElem (xs := w) (p := isG g) (w := by rw [h]; exact hlt)
      simp only [h] at this
      exact this
    have hbe : ∀ x ∈ w.take a, isG g x = false := fun x hx => by
      obtain ⟨i, hi, rfl⟩ := List.mem_iff_getElem.1 hx
      rw [List.length_take] at hi
      have hi2 : i < w.findIdx (isG g) := by rw [h]; omega
      have := List.not_of_lt_findIdx hi2
      rw [List.getElem_take]
      simpa using this
    refine ⟨hlt, by rw [List.getD_eq_getElem?_getD, List.getElem?_eq_getElem hlt]; exact hat, hbe, fun x hx => ?_⟩
    have e : w = w.take a ++ w[a] :: w.drop (a + 1) := by rw [List.getElem_cons_drop, List.take_append_drop]
    rw [e, List.countP_append, List.countP_cons, if_pos hat] at hc
    have h0 : (w.drop (a + 1)).countP (isG g) = 0 := by omega
    have := List.countP_eq_zero.1 h0 x hx
    simpa using this
  · cases h
theorem low_ok {n gen : Nat} {w : W} (hg : 1 ≤ gen ∧ gen ≤ n) (hw : LOk n w) (hno : ∀ x ∈ w, isG gen x = false) : LOk (n - 1) (lowW gen w) := fun y hy => by
  obtain ⟨x, hx, rfl⟩ := List.mem_map.1 hy
  have h1 := hw x hx
  have h2 : ¬ (x = (gen : Int) ∨ x = -(gen : Int)) := fun e => by have := hno x hx; rw [isG_iff.2 e] at this; cases this
  unfold lowI
  split
  · omega
  · split <;> omega
theorem length_low (g : Int) (w : W) : (lowW g w).length = w.length := by simp [lowW]
theorem img_mem {r : W} {a : Nat} {x : Int} (h : x ∈ imgW r a) : (x ∈ r.take a ∨ x ∈ r.drop (a + 1)) ∨ (-x ∈ r.take a ∨ -x ∈ r.drop (a + 1)) := by
  have hv : ∀ y, y ∈ mulW (invW (r.take a)) (invW (r.drop (a + 1))) → -y ∈ r.take a ∨ -y ∈ r.drop (a + 1) := fun y hy => by
    rcases List.mem_append.1 (Ct.red_mem hy) with h | h
    · exact .inl (Ct.mem_inv (Ct.red_mem h))
    · exact .inr (Ct.mem_inv (Ct.red_mem h))
  unfold imgW at h
  simp only at h
  split at h
  · have := hv _ (Ct.mem_inv (Ct.red_mem h))
    rw [Int.neg_neg] at this
    exact .inl this
  · exact .inr (hv x h)
theorem imgs_get {n gen : Nat} {v : W} {i : Nat} (hi : i < n) : (imgsW n gen v).getD i [] = if i + 1 = gen then lowW gen v else lowW gen [(i : Int) + 1] := by
  unfold imgsW
  simp [List.getD_eq_getElem?_getD, hi]
theorem length_imgs (n gen : Nat) (v : W) : (imgsW n gen v).length = n := by simp [imgsW]
theorem imgs_ok {n gen : Nat} {r : W} {a : Nat} (hg : 1 ≤ gen ∧ gen ≤ n) (hr : LOk n r) (h : onceW r gen = some a) : ∀ w ∈ imgsW n gen (imgW r a), LOk (n - 1) w := fun w hw => by
  obtain ⟨-, -, h1, h2⟩ := onceW_spec h
  obtain ⟨i, hi, rfl⟩ := List.mem_map.1 hw
  rw [List.mem_range] at hi
  split
  · have hm : ∀ x ∈ imgW r a, (x ∈ r ∧ isG gen x = false) ∨ (-x ∈ r ∧ isG gen (-x) = false) := fun x hx => by
      rcases img_mem hx with (h | h) | h | h
      · exact .inl ⟨List.mem_of_mem_take h, h1 _ h⟩
      · exact .inl ⟨List.mem_of_mem_drop h, h2 _ h⟩
      · exact .inr ⟨List.mem_of_mem_take h, h1 _ h⟩
      · exact .inr ⟨List.mem_of_mem_drop h, h2 _ h⟩
    refine low_ok hg (fun x hx => ?_) fun x hx => ?_
    · rcases hm x hx with ⟨h, -⟩ | ⟨h, -⟩
      · exact hr x h
      · have := hr _ h; omega
    · rcases hm x hx with ⟨-, h⟩ | ⟨-, h⟩
      · exact h
      · cases e : isG gen x with
        | false => rfl
        | true => rw [isG_iff] at e; rw [isG_iff.2 (by omega)] at h; cases h
  · rename_i hne
    refine low_ok hg (fun x hx => ?_) fun x hx => ?_
    · rw [List.mem_singleton.1 hx]; omega
    · rw [List.mem_singleton.1 hx]
      cases e : isG gen ((i : Int) + 1) with
      | false => rfl
      | true => rw [isG_iff] at e; omega
theorem sbTo_ok {g : Nat} {G : List W} (hG : ∀ w ∈ G, LOk g w) (z : W) : ∀ k, LOk g (sbTo G z k)
  | 0 => fun x hx => absurd hx List.not_mem_nil
  | k + 1 => fun x hx => by
    have hj : ∀ j, LOk g (G.getD j []) := fun j => by
      rcases Nat.lt_or_ge j G.length with h | h
      · exact hG _ (getD_mem' h)
      · rw [List.getD_eq_getElem?_getD, List.getElem?_eq_none h]; exact fun x hx => absurd hx List.not_mem_nil
    have hx' : x ∈ mulW (sbTo G z k) (if 0 < z.getD k 0 then G.getD (z.getD k 0 - 1).toNat [] else inv (G.getD (-(z.getD k 0) - 1).toNat [])) := hx
    rcases List.mem_append.1 (Ct.red_mem hx') with h | h
    · exact sbTo_ok hG z k x h
    · split at h
      · exact hj _ x h
      · exact (hj _).inv x h
theorem sbL_some {G l m : List W} (h : sbL G l = some m) : m = l.map (sbW G) ∧ ∀ z ∈ l, (sbW G z).length ≤ 4000 := by
  unfold sbL at h
  split at h
  · rename_i hc
    injection h with h
    exact ⟨h.symm, fun z hz => by have := List.all_eq_true.1 hc z hz; simpa using this⟩
  · cases h
theorem length_erase {l : List W} (k : Nat) : (l.eraseIdx k).length ≤ l.length := by rw [List.length_eraseIdx]; split <;> omega
/-- a valid presentation -/
structure Vld (n : Nat) (rels : List W) : Prop where
  n1 : 1 ≤ n
  n16 : n ≤ 16
  many : rels.length ≤ 100
  len : lenL rels ≤ 4000
  ok : ∀ w ∈ rels, LOk n w
theorem Cln.vld {n : Nat} {rels : List W} (h : Cln n rels) : Vld n rels := ⟨h.n1, h.n16, h.many, h.len, h.ok⟩
theorem Vld.clean {n : Nat} {rels : List W} (h : Vld n rels) : Cln n (cleanL rels) := cln_clean h.n1 h.n16 h.many h.len h.ok
theorem lenL_mem {l : List W} {w : W} (h : w ∈ l) : w.length ≤ lenL l := by
  induction l with
  | nil => exact absurd h List.not_mem_nil
  | cons x l ih =>
    rw [lenL_cons]
    rcases List.mem_cons.1 h with e | e
    · rw [e]; omega
    · have := ih e; omega
theorem elim_cln {n : Nat} {rels : List W} (h : Vld n rels) {rel gen : Nat} (hr : rel < rels.length) (hg : 1 ≤ gen ∧ gen ≤ n) {l im : List W} (e : elimE n rels rel gen = .inl (l, im)) :
    2 ≤ n ∧ Cln (n - 1) l ∧ im.length = n ∧ (∀ w ∈ im, LOk (n - 1) w) ∧ ∀ w ∈ im, w.length ≤ 1000 := by
  unfold elimE at e
  split at e
  · cases e
  · rename_i a ha
    split at e
    · cases e
    · rename_i hn
      simp only at e
      split at e
      · cases e
      · rename_i hv
        split at e
        · cases e
        · rename_i m hm
          split at e
          · cases e
          · rename_i hl
            injection e with e
            injection e with e1 e2
            obtain ⟨h1, h2⟩ := sbL_some hm
            have hrok := h.ok _ (getD_mem' hr)
            have hio := imgs_ok hg hrok ha
            subst e1 e2
            refine ⟨by have := h.n1; omega, cln_clean (by have := h.n1; omega) (by have := h.n16; omega) ?_ (by omega) (fun w hw => ?_), length_imgs _ _ _, hio, fun w hw => ?_⟩
            · rw [h1, List.length_map]
              have := length_erase (l := rels) rel
              have := h.many
              omega
            · rw [h1] at hw
              obtain ⟨z, -, rfl⟩ := List.mem_map.1 hw
              exact sbTo_ok hio z _
            · obtain ⟨i, -, rfl⟩ := List.mem_map.1 hw
              split
              · rw [length_low]; omega
              · rw [length_low]; simp
theorem turns_mem {r t : W} (hr : CyI r) (h : t ∈ turnsW r) : t.length = r.length ∧ CyI t ∧ ∀ g, LOk g r → LOk g t := by
  rcases List.mem_append.1 h with h | h
  · obtain ⟨k, hk, rfl⟩ := List.mem_map.1 h
    rw [List.mem_range] at hk
    exact ⟨length_rot _ (by omega), hr.rot (by omega), fun g hg x hx => hg x (mem_rot hx)⟩
  · obtain ⟨k, hk, rfl⟩ := List.mem_map.1 h
    rw [List.mem_range, hr.invW, length_inv'] at hk
    rw [hr.invW]
    exact ⟨by rw [length_rot _ (by rw [length_inv']; omega), length_inv'], hr.inv.rot (by rw [length_inv']; omega), fun g hg x hx => hg.inv x (mem_rot hx)⟩
theorem lenL_set : ∀ (l : List W) (k : Nat) (s : W), s.length ≤ (l.getD k []).length → lenL (l.set k s) ≤ lenL l
  | [], _, _, _ => by simp
  | x :: l, 0, s, h => by
    simp at h
    rw [List.set_cons_zero, lenL_cons, lenL_cons]; omega
  | x :: l, k + 1, s, h => by
    have := lenL_set l k s (by simpa using h)
    rw [List.set_cons_succ, lenL_cons, lenL_cons]; omega
theorem shortW_some {s w v : W} (hw : w ≠ []) (h : shortW s w = some v) : v.length < s.length ∧ ∀ g, LOk g s → LOk g w → LOk g v := by
  unfold shortW at h
  simp only at h
  split at h
  · rename_i hl
    split at h
    · rename_i k hk
      have hks : k < s.length := List.mem_range.1 (List.mem_of_find?_eq_some hk)
      injection h with h
      subst h
      have hwl := List.length_pos_iff.2 hw
      refine ⟨?_, fun g hs hw x hx => ?_⟩
      · have h1 := Ct.red_length (invW (w.drop (w.length / 2 + 1)) ++ (rot s k).drop (w.length / 2 + 1))
        have h2 := Ct.red_length (inv (w.drop (w.length / 2 + 1)))
        rw [Ct.length_inv, List.length_drop] at h2
        rw [List.length_append, List.length_drop, length_rot s (by omega)] at h1
        unfold Ct.mulW Ct.invW at *
        omega
      · rcases List.mem_append.1 (Ct.red_mem hx) with h | h
        · have h3 : LOk g (w.drop (w.length / 2 + 1)) := fun y hy => hw y (List.mem_of_mem_drop hy)
          exact h3.inv x (Ct.red_mem h)
        · exact hs x (mem_rot (List.mem_of_mem_drop h))
    · cases h
  · cases h
theorem pairs_mem {n i k : Nat} (h : (i, k) ∈ pairsN n) : i < n ∧ k < n ∧ i ≠ k := by
  unfold pairsN at h
  rw [List.mem_flatten] at h
  obtain ⟨l, h1, h2⟩ := h
  obtain ⟨i', h3, rfl⟩ := List.mem_map.1 h1
  obtain ⟨k', h4, h5⟩ := List.mem_map.1 h2
  injection h5 with e1 e2
  subst e1 e2
  rw [List.mem_filter, List.mem_range] at h4
  exact ⟨List.mem_range.1 h3, h4.1, fun e => by have := h4.2; simp [e] at this⟩
theorem short_cln {n : Nat} {rels l : List W} (h : Cln n rels) (e : shortF rels = some l) : Cln n l := by
  unfold shortF at e
  obtain ⟨⟨i, k⟩, h1, h2⟩ := List.exists_of_findSome?_eq_some e
  obtain ⟨hi, hk, -⟩ := pairs_mem h1
  obtain ⟨t, h3, h4⟩ := List.exists_of_findSome?_eq_some h2
  simp only [Option.map_eq_some_iff] at h4
  obtain ⟨v, h5, rfl⟩ := h4
  have hi' := getD_mem' hi
  have hk' := getD_mem' hk
  obtain ⟨t1, t2, t3⟩ := turns_mem (h.cy _ hi') h3
  have tne : t ≠ [] := fun e => h.ne _ hi' (List.eq_nil_of_length_eq_zero (by rw [← t1, e]; rfl))
  obtain ⟨s1, s2⟩ := shortW_some tne h5
  refine cln_clean h.n1 h.n16 (by rw [List.length_set]; exact h.many) ?_ fun w hw => ?_
  · have := lenL_set rels k v (by omega)
    have := h.len
    show lenL (rels.set k v) ≤ 4000
    omega
  · rcases List.mem_or_eq_of_mem_set hw with e | e
    · exact h.ok w e
    · rw [e]; exact s2 n (h.ok _ hk') (t3 n (h.ok _ hi'))
end Go.Proofs.Tz
namespace Go.Proofs.Ct
section
variable {g : Nat} {t : Tb} {R : List W}
/-- the letters that one letter is rewritten to -/
def oneL (t : Tb) (R : List W) (g r : Nat) (x : Int) : W := if letN t R g r x ≠ 0 then [letN t R g r x] else []
/-- what a word is rewritten to, not yet reduced -/
def rl (t : Tb) (R : List W) (g : Nat) : Nat → W → W
  | _, [] => []
  | r, x :: w => oneL t R g r x ++ rl t R g (nx t r (col x)) w
/-- how a representative comes from an elder one -/
def Grown (g : Nat) (t : Tb) (out : List W) : Prop := ∀ j, j < out.length → (j = 0 ∧ out.getD j [] = []) ∨ ∃ i c, i < j ∧ c < 2 * g ∧ t.at i c = (j : Int) ∧ out.getD j [] = out.getD i [] ++ [letter c]
theorem Grown.col {out : List W} (h : Grown g t out) {r c : Nat} (hr : r < out.length) (hc : c < 2 * g) : Grown g t (repCol t r c out) := by
  unfold repCol
  split
  · rename_i he
    intro j hj
    rcases Nat.lt_or_ge j out.length with h1 | h1
    · have e : ∀ i, i < out.length → (out ++ [out.getD r [] ++ [letter c]]).getD i [] = out.getD i [] := fun i hi => by simp [List.getD_eq_getElem?_getD, List.getElem?_append_left hi]
      rw [e j h1]
      rcases h j h1 with h2 | ⟨i, c', h2, h3, h4, h5⟩
      · exact .inl h2
      · exact .inr ⟨i, c', h2, h3, h4, by rw [e i (by omega)]; exact h5⟩
    · obtain rfl : j = out.length := by simp at hj; omega
      refine .inr ⟨r, c, hr, hc, he, ?_⟩
      have e1 : (out ++ [out.getD r [] ++ [letter c]]).getD out.length [] = out.getD r [] ++ [letter c] := by simp [List.getD_eq_getElem?_getD]
      have e2 : (out ++ [out.getD r [] ++ [letter c]]).getD r [] = out.getD r [] := by simp [List.getD_eq_getElem?_getD, List.getElem?_append_left hr]
      rw [e1, e2]
  · exact h
theorem Grown.row {out : List W} (h : Grown g t out) {r : Nat} (hr : r < out.length) (hl : (t.row r).length = 2 * g) : Grown g t (repRow t r out) :=
  (foldTo_inv (p := fun _ out => Grown g t out ∧ r < out.length) ⟨h, hr⟩ _ fun c x hc ⟨h1, h2⟩ => ⟨h1.col h2 (by omega), Nat.lt_of_lt_of_le h2 (repCol_len r c x)⟩).1
end
end Go.Proofs.Ct
namespace Go.Proofs.Ct
/-- rows of numbers of ten bits -/
def gt (a k : Nat) : Nat := Nat.mod (Nat.shiftRight a (Nat.mul 10 k)) 1024
def pt (a k v : Nat) : Nat := Nat.add a (Nat.shiftLeft v (Nat.mul 10 k))
theorem gt_eq (a k : Nat) : gt a k = a / 1024 ^ k % 1024 := by
  show (a >>> (10 * k)) % 1024 = _
  rw [Nat.shiftRight_eq_div_pow, Nat.pow_mul]
theorem pt_eq (a k v : Nat) : pt a k v = a + v * 1024 ^ k := by
  show a + v <<< (10 * k) = _
  rw [Nat.shiftLeft_eq, Nat.pow_mul]
theorem gt_pt {a k v : Nat} (h0 : gt a k = 0) (hv : v < 1024) (j : Nat) : gt (pt a k v) j = if j = k then v else gt a j := by
  rw [gt_eq] at h0
  rw [gt_eq, pt_eq, gt_eq]
  have hk : 0 < 1024 ^ k := Nat.pow_pos (by omega)
  rcases Nat.lt_trichotomy j k with h | h | h
  · rw [if_neg (by omega)]
    obtain ⟨d, rfl⟩ := Nat.exists_eq_add_of_lt h
    have hj : 0 < 1024 ^ j := Nat.pow_pos (by omega)
    have e : v * 1024 ^ (j + d + 1) = (v * 1024 ^ d * 1024) * 1024 ^ j := by
      rw [Nat.pow_succ, Nat.pow_add]
      simp only [Nat.mul_comm, Nat.mul_left_comm]
    rw [e, Nat.add_mul_div_right _ _ hj, Nat.add_mul_mod_self_right]
  · subst h
    rw [if_pos rfl, Nat.add_mul_div_right _ _ hk, Nat.add_mod, h0, Nat.zero_add, Nat.mod_mod, Nat.mod_eq_of_lt hv]
  · rw [if_neg (by omega)]
    obtain ⟨d, rfl⟩ := Nat.exists_eq_add_of_lt h
    have e : 1024 ^ (k + d + 1) = 1024 ^ k * (1024 * 1024 ^ d) := by
      rw [Nat.pow_succ, Nat.pow_add, Nat.mul_assoc, Nat.mul_comm (1024 ^ d)]
    have h1 : (a + v * 1024 ^ k) / 1024 ^ k = a / 1024 ^ k + v := Nat.add_mul_div_right _ _ hk
    have h2 : (a / 1024 ^ k + v) / 1024 = a / 1024 ^ k / 1024 := by omega
    rw [e, ← Nat.div_div_eq_div_mul, ← Nat.div_div_eq_div_mul, ← Nat.div_div_eq_div_mul, ← Nat.div_div_eq_div_mul, h1, h2]
theorem nbeq (a b : Nat) : (Nat.beq a b = true) = (a = b) := propext ⟨Nat.eq_of_beq_eq_true, fun h => by rw [h]; exact Nat.beq_refl b⟩
/-- the record's state: how many names, the edges, the names that are other names -/
structure Cs where
  n : Nat
  E : Nat
  A : Nat
def rpC (A : Nat) : Nat → Nat → Nat
  | 0, x => x
  | k + 1, x => match gt A x with
    | 0 => x
    | y + 1 => rpC A k y
def lkC (s : Cs) (x c : Nat) : Nat := match gt s.E (Nat.add (Nat.mul 8 x) c) with
  | 0 => 0
  | y + 1 => Nat.succ (rpC s.A 20 y)
def wkC (s : Cs) : List Nat → Nat → Nat
  | [], x => Nat.succ x
  | c :: w, x => match lkC s x c with
    | 0 => 0
    | y + 1 => wkC s w y
def alC (s : Cs) (a b : Nat) : Cs := cond (Nat.beq (gt s.A b) 0 && Nat.blt a s.n && Nat.blt b s.n) ⟨s.n, s.E, pt s.A b (Nat.succ a)⟩ s
def algC (s : Cs) (a b : Nat) : Cs := cond (Nat.beq a b) s (cond (Nat.blt a b) (alC s a b) (alC s b a))
def haC (s : Cs) (u c v : Nat) : Cs := match lkC s u c with
  | y + 1 => algC s y v
  | 0 => ⟨s.n, pt s.E (Nat.add (Nat.mul 8 u) c) (Nat.succ v), s.A⟩
def lnC (s : Cs) (u c v : Nat) : Cs := haC (haC s u c v) v (flp c) u
def dfC (m : Nat) (s : Cs) (r c : Nat) : Cs := match lkC s r c with
  | 0 => cond (Nat.blt r s.n && Nat.blt c m && Nat.blt s.n 1000) (lnC ⟨Nat.succ s.n, s.E, s.A⟩ r c s.n) s
  | _ + 1 => s
def bkC (w : List Nat) : List Nat := (w.map flp).reverse
def reC (rs : List (List Nat)) (s : Cs) (r k i : Nat) : Cs := cond (Nat.blt r s.n && Nat.blt k rs.length && Nat.blt i (rs.getD k []).length)
  (match wkC s ((rs.getD k []).take i) r with
  | 0 => s
  | u + 1 => match wkC s (bkC ((rs.getD k []).drop (i + 1))) r with
    | 0 => s
    | v + 1 => lnC s u ((rs.getD k []).getD i 0) v) s
def cpC (s : Cs) (x c : Nat) : Cs := match gt s.E (Nat.add (Nat.mul 8 x) c) with
  | 0 => s
  | d + 1 => cond (Nat.blt c 8) (lnC s (rpC s.A 20 x) c (rpC s.A 20 d)) s
def stC (m : Nat) (rs : List (List Nat)) (i : Nat) (s : Cs) : Cs := match Nat.mod i 4 with
  | 0 => dfC m s (Nat.div i 32) (Nat.mod (Nat.div i 4) 8)
  | 1 => reC rs s (Nat.div i 1024) (Nat.mod (Nat.div i 128) 8) (Nat.mod (Nat.div i 4) 32)
  | _ => cpC s (Nat.div i 32) (Nat.mod (Nat.div i 4) 8)
def runC (m : Nat) (rs : List (List Nat)) : Nat → Nat → Cs → Cs
  | 0, _, s => s
  | k + 1, log, s => runC m rs k (Nat.shiftRight log 20) (stC m rs (Nat.mod log 1048576) s)
/-- what holds of a record's state -/
structure OkC (g : Nat) {α : Type} (D : α → Prop) (act : α → Nat → α) (p0 : α) (s : Cs) (f : Nat → α) : Prop where
  n1 : 1 ≤ s.n
  n2 : s.n ≤ 1000
  f0 : f 0 = p0
  dom : ∀ x, x < s.n → D (f x)
  e : ∀ x c y, c < 8 → gt s.E (8 * x + c) = y + 1 → x < s.n ∧ y < s.n ∧ c < 2 * g ∧ act (f x) c = f y
  a : ∀ x y, gt s.A x = y + 1 → x < s.n ∧ y < s.n ∧ f x = f y
section
variable {g : Nat} {rels : List W} {α : Type} {D : α → Prop} {act : α → Nat → α} {p0 : α} {s : Cs} {f : Nat → α}
theorem OkC.rp (h : OkC g D act p0 s f) : ∀ (k : Nat) {x : Nat}, x < s.n → rpC s.A k x < s.n ∧ f (rpC s.A k x) = f x
  | 0, x, hx => ⟨hx, rfl⟩
  | k + 1, x, hx => by
    rw [rpC]
    cases hg : gt s.A x with
    | zero => exact ⟨hx, rfl⟩
    | succ y =>
      obtain ⟨h1, h2, h3⟩ := h.a x y hg
      obtain ⟨h4, h5⟩ := h.rp k h2
      exact ⟨h4, h5.trans h3.symm⟩
theorem OkC.lk (h : OkC g D act p0 s f) {x c y : Nat} (hc : c < 8) (e : lkC s x c = y + 1) : x < s.n ∧ y < s.n ∧ c < 2 * g ∧ act (f x) c = f y := by
  unfold lkC at e
  cases hg : gt s.E (Nat.add (Nat.mul 8 x) c) with
  | zero => rw [hg] at e; cases e
  | succ z =>
    rw [hg] at e
    obtain ⟨h1, h2, h3, h4⟩ := h.e x c z hc hg
    obtain ⟨h5, h6⟩ := h.rp 20 h2
    have e' : rpC s.A 20 z = y := Nat.succ.inj e
    rw [e'] at h5 h6
    exact ⟨h1, h5, h3, by rw [h4, h6]⟩
theorem lkC_zero {x c : Nat} (e : lkC s x c = 0) : gt s.E (8 * x + c) = 0 := by
  unfold lkC at e
  show gt s.E (Nat.add (Nat.mul 8 x) c) = 0
  cases hg : gt s.E (Nat.add (Nat.mul 8 x) c) with
  | zero => rfl
  | succ z => rw [hg] at e; cases e
theorem OkC.al (h : OkC g D act p0 s f) {a b : Nat} (e : f a = f b) : OkC g D act p0 (alC s a b) f := by
  unfold alC
  cases hc : (Nat.beq (gt s.A b) 0 && Nat.blt a s.n && Nat.blt b s.n) with
  | false => exact h
  | true =>
    simp only [Bool.and_eq_true, nbeq, Nat.blt_eq] at hc
    have hn := h.n2
    refine ⟨h.n1, h.n2, h.f0, h.dom, h.e, fun x y hx => ?_⟩
    show x < s.n ∧ y < s.n ∧ f x = f y
    have hx' : gt (pt s.A b (a + 1)) x = y + 1 := hx
    rw [gt_pt hc.1.1 (by omega)] at hx'
    split at hx'
    · rename_i e1
      have : a = y := by omega
      rw [e1, ← this]
      exact ⟨hc.2, hc.1.2, e.symm⟩
    · exact h.a x y hx'
theorem OkC.alg (h : OkC g D act p0 s f) {a b : Nat} (e : f a = f b) : OkC g D act p0 (algC s a b) f := by
  unfold algC
  cases Nat.beq a b with
  | true => exact h
  | false =>
    cases Nat.blt a b with
    | true => exact h.al e
    | false => exact h.al e.symm
theorem flp8 {c : Nat} (h : c < 8) : flp c < 8 := flp_lt2 (g := 4) h
theorem key_inj {x c y d : Nat} (hc : c < 8) (hd : d < 8) (e : 8 * x + c = 8 * y + d) : x = y ∧ c = d := by omega
theorem OkC.put (h : OkC g D act p0 s f) {u v c : Nat} (hu : u < s.n) (hv : v < s.n) (hc : c < 2 * g) (hc8 : c < 8) (e : act (f u) c = f v) (h1 : gt s.E (8 * u + c) = 0) :
    OkC g D act p0 ⟨s.n, pt s.E (8 * u + c) (v + 1), s.A⟩ f := by
  have hn := h.n2
  have e1 := gt_pt h1 (show v + 1 < 1024 by omega)
  refine ⟨h.n1, h.n2, h.f0, h.dom, fun x k y hk hx => ?_, h.a⟩
  have hx' : gt (pt s.E (8 * u + c) (v + 1)) (8 * x + k) = y + 1 := hx
  rw [e1] at hx'
  show x < s.n ∧ y < s.n ∧ k < 2 * g ∧ act (f x) k = f y
  split at hx'
  · rename_i e2
    obtain ⟨rfl, rfl⟩ := key_inj hk hc8 e2
    have : y = v := by omega
    rw [this]
    exact ⟨hu, hv, hc, e⟩
  · exact h.e x k y hk hx'
theorem n_al (s : Cs) (a b : Nat) : (alC s a b).n = s.n := by unfold alC; cases (Nat.beq (gt s.A b) 0 && Nat.blt a s.n && Nat.blt b s.n) <;> rfl
theorem n_alg (s : Cs) (a b : Nat) : (algC s a b).n = s.n := by
  unfold algC
  cases Nat.beq a b with
  | true => rfl
  | false =>
    cases Nat.blt a b with
    | true => exact n_al s a b
    | false => exact n_al s b a
theorem n_ha (s : Cs) (u c v : Nat) : (haC s u c v).n = s.n := by
  unfold haC
  cases lkC s u c with
  | zero => rfl
  | succ y => exact n_alg s y v
theorem OkC.ha (h : OkC g D act p0 s f) {u v c : Nat} (hu : u < s.n) (hv : v < s.n) (hc : c < 2 * g) (hc8 : c < 8) (e : act (f u) c = f v) : OkC g D act p0 (haC s u c v) f := by
  unfold haC
  cases h1 : lkC s u c with
  | succ y =>
    obtain ⟨-, -, -, h2⟩ := h.lk hc8 h1
    exact h.alg (by rw [← h2, e])
  | zero => exact h.put hu hv hc hc8 e (lkC_zero h1)
theorem OkC.ln (h : OkC g D act p0 s f) (hM : Mdl g rels D act) {u v c : Nat} (hu : u < s.n) (hv : v < s.n) (hc : c < 2 * g) (hc8 : c < 8) (e : act (f u) c = f v) : OkC g D act p0 (lnC s u c v) f := by
  have h1 := h.ha hu hv hc hc8 e
  have hn := n_ha s u c v
  exact h1.ha (by rw [hn]; exact hv) (by rw [hn]; exact hu) (flp_lt2 hc) (flp8 hc8) (by rw [← e]; exact hM.inv _ _ (h.dom u hu) hc)
theorem OkC.df (h : OkC g D act p0 s f) (hM : Mdl g rels D act) (hg : 2 * g ≤ 8) (r c : Nat) : ∃ f', OkC g D act p0 (dfC (2 * g) s r c) f' := by
  unfold dfC
  cases h1 : lkC s r c with
  | succ y => exact ⟨f, h⟩
  | zero =>
    simp only
    cases hc : (Nat.blt r s.n && Nat.blt c (2 * g) && Nat.blt s.n 1000) with
    | false => exact ⟨f, h⟩
    | true =>
      simp only [Bool.and_eq_true, Nat.blt_eq] at hc
      obtain ⟨⟨h2, h3⟩, h4⟩ := hc
      have hn1 := h.n1
      refine ⟨fun x => if x = s.n then act (f r) c else f x, ?_⟩
      have h5 : OkC g D act p0 ⟨s.n + 1, s.E, s.A⟩ (fun x => if x = s.n then act (f r) c else f x) := by
        refine ⟨by show 1 ≤ s.n + 1; omega, by show s.n + 1 ≤ 1000; omega, by rw [if_neg (by omega)]; exact h.f0, fun x hx => ?_, fun x k y hk hx => ?_, fun x y hx => ?_⟩
        · have hx' : x < s.n + 1 := hx
          split
          · exact hM.cl _ _ (h.dom r h2) h3
          · exact h.dom x (by omega)
        · obtain ⟨a, b, c', d⟩ := h.e x k y hk hx
          rw [if_neg (by omega), if_neg (by omega)]
          exact ⟨Nat.lt_succ_of_lt a, Nat.lt_succ_of_lt b, c', d⟩
        · obtain ⟨a, b, c'⟩ := h.a x y hx
          rw [if_neg (by omega), if_neg (by omega)]
          exact ⟨Nat.lt_succ_of_lt a, Nat.lt_succ_of_lt b, c'⟩
      exact h5.ln hM (u := r) (v := s.n) (c := c) (by show r < s.n + 1; omega) (by show s.n < s.n + 1; omega) h3 (by omega) (by rw [if_neg (by omega), if_pos rfl])
theorem actW_cols (w : W) : ∀ p : α, actW act p w = (w.map col).foldl act p := by
  induction w with
  | nil => intro p; rfl
  | cons l w ih => intro p; exact ih _
theorem OkC.wk (h : OkC g D act p0 s f) (hg : 2 * g ≤ 8) : ∀ {w : List Nat} {x y : Nat}, (∀ c ∈ w, c < 2 * g) → x < s.n → wkC s w x = y + 1 → y < s.n ∧ w.foldl act (f x) = f y := by
  intro w
  induction w with
  | nil =>
    intro x y _ hx e
    have e' : x = y := Nat.succ.inj e
    rw [← e']; exact ⟨hx, rfl⟩
  | cons c w ih =>
    intro x y hw hx e
    rw [wkC] at e
    have hc := hw c (List.mem_cons_self ..)
    cases h1 : lkC s x c with
    | zero => rw [h1] at e; cases e
    | succ z =>
      rw [h1] at e
      obtain ⟨-, h2, -, h3⟩ := h.lk (by omega) h1
      rw [List.foldl_cons, h3]
      exact ih (fun c hc => hw c (List.mem_cons_of_mem _ hc)) h2 e
theorem fold_bk (hM : Mdl g rels D act) : ∀ {w : List Nat} {p : α}, (∀ c ∈ w, c < 2 * g) → D p → (bkC w).foldl act (w.foldl act p) = p := by
  intro w
  induction w with
  | nil => intro p _ _; rfl
  | cons c w ih =>
    intro p hw hp
    have hc := hw c (List.mem_cons_self ..)
    have e : bkC (c :: w) = bkC w ++ [flp c] := by simp [bkC]
    rw [e, List.foldl_append, List.foldl_cons (l := w), List.foldl_cons, ih (fun c hc => hw c (List.mem_cons_of_mem _ hc)) (hM.cl _ _ hp hc)]
    exact hM.inv _ _ hp hc
theorem mem_bk {w : List Nat} (h : ∀ c ∈ w, c < 2 * g) : ∀ c ∈ bkC w, c < 2 * g := fun c hc => by
  unfold bkC at hc
  obtain ⟨d, hd, rfl⟩ := List.mem_map.1 (List.mem_reverse.1 hc)
  exact flp_lt2 (h d hd)
theorem OkC.re (h : OkC g D act p0 s f) (hM : Mdl g rels D act) (hg : 2 * g ≤ 8) {rs : List (List Nat)} (hrs : rs = rels.map fun w => w.map col) (hr : ∀ j, j < rels.length → LOk g (rels.getD j [])) (r k i : Nat) : OkC g D act p0 (reC rs s r k i) f := by
  unfold reC
  cases hc : (Nat.blt r s.n && Nat.blt k rs.length && Nat.blt i (rs.getD k []).length) with
  | false => exact h
  | true =>
    simp only [Bool.and_eq_true, Nat.blt_eq] at hc
    obtain ⟨⟨h1, h2⟩, h3⟩ := hc
    simp only [cond_true]
    have hk : k < rels.length := by rw [hrs, List.length_map] at h2; exact h2
    have hw : rs.getD k [] = (rels.getD k []).map col := by rw [hrs]; simp [List.getD_eq_getElem?_getD, hk]
    have hall : ∀ c ∈ rs.getD k [], c < 2 * g := fun c hc => by
      rw [hw] at hc
      obtain ⟨l, hl, rfl⟩ := List.mem_map.1 hc
      exact col_ltL (hr k hk l hl)
    have hcl : (rs.getD k []).foldl act (f r) = f r := by
      rw [hw, ← actW_cols]
      exact hM.rel _ k (h.dom r h1) hk
    generalize rs.getD k [] = w at *
    cases h4 : wkC s (w.take i) r with
    | zero => exact h
    | succ u =>
      simp only
      cases h5 : wkC s (bkC (w.drop (i + 1))) r with
      | zero => exact h
      | succ v =>
        simp only
        have hd : ∀ c ∈ w.drop (i + 1), c < 2 * g := fun c hc => hall c (List.mem_of_mem_drop hc)
        obtain ⟨h6, h7⟩ := h.wk hg (fun c hc => hall c (List.mem_of_mem_take hc)) h1 h4
        obtain ⟨h8, h9⟩ := h.wk hg (mem_bk hd) h1 h5
        have hci : w.getD i 0 < 2 * g := by
          rw [List.getD_eq_getElem?_getD, List.getElem?_eq_getElem h3]
          exact hall _ (List.getElem_mem h3)
        refine h.ln hM h6 h8 hci (by omega) ?_
        have e : w = w.take i ++ w.getD i 0 :: w.drop (i + 1) := by
          rw [List.getD_eq_getElem?_getD, List.getElem?_eq_getElem h3]
          simp
        rw [e, List.foldl_append, List.foldl_cons, h7] at hcl
        have hD1 : D (act (f u) (w.getD i 0)) := hM.cl _ _ (h.dom u h6) hci
        rw [← fold_bk hM hd hD1, hcl, h9]
theorem OkC.cp (h : OkC g D act p0 s f) (hM : Mdl g rels D act) (x c : Nat) : OkC g D act p0 (cpC s x c) f := by
  unfold cpC
  cases h1 : gt s.E (Nat.add (Nat.mul 8 x) c) with
  | zero => exact h
  | succ d =>
    simp only
    cases h2 : Nat.blt c 8 with
    | false => exact h
    | true =>
      rw [Nat.blt_eq] at h2
      obtain ⟨h3, h4, h5, h6⟩ := h.e x c d h2 h1
      obtain ⟨h7, h8⟩ := h.rp 20 h3
      obtain ⟨h9, h10⟩ := h.rp 20 h4
      exact h.ln hM h7 h9 h5 h2 (by rw [h8, h10]; exact h6)
theorem OkC.run (hM : Mdl g rels D act) (hg : 2 * g ≤ 8) {rs : List (List Nat)} (hrs : rs = rels.map fun w => w.map col) (hr : ∀ j, j < rels.length → LOk g (rels.getD j [])) : ∀ (k log : Nat) {s : Cs} {f : Nat → α}, OkC g D act p0 s f → ∃ f', OkC g D act p0 (runC (2 * g) rs k log s) f'
  | 0, _, _, f, h => ⟨f, h⟩
  | k + 1, log, s, f, h => by
    rw [runC]
    have h1 : ∃ f', OkC g D act p0 (stC (2 * g) rs (Nat.mod log 1048576) s) f' := by
      unfold stC
      split
      · exact h.df hM hg _ _
      · exact ⟨f, h.re hM hg hrs hr _ _ _⟩
      · exact ⟨f, h.cp hM _ _⟩
    obtain ⟨f1, h2⟩ := h1
    exact OkC.run hM hg hrs hr k _ h2
end
/-- the regular table of a group: it satisfies the relators, and maps onto whatever does -/
def Reg (g : Nat) (rels : List W) (n : Nat) : Prop := ∃ act : Nat → Nat → Nat, 1 ≤ n ∧ n ≤ 1000 ∧ Mdl g rels (fun x => x < n) act ∧ (∀ i, 0 < i → i < n → ∃ p c, p < i ∧ c < 2 * g ∧ act p c = i) ∧
  ∀ {α : Type} {D : α → Prop} {act' : α → Nat → α} {p0 : α}, Mdl g rels D act' → D p0 → ∃ φ : Nat → α, φ 0 = p0 ∧ (∀ x, x < n → D (φ x)) ∧ ∀ x c, x < n → c < 2 * g → φ (act x c) = act' (φ x) c
/-- how many cosets there can be -/
theorem Reg.fits {g n : Nat} {rels sub : List W} {t : Tb} (hg : 1 ≤ g ∧ g ≤ 16) (h : Reg g rels n) (hr : ∀ j, j < rels.length → LOk g (rels.getD j [])) (ht : Coset g rels sub t) : (∃ k, n = t.length * k) ∧ (sub.length = 0 → t.length = n) := by
  obtain ⟨act, hn1, hn2, hM, hP, hU⟩ := h
  have hlen : ((List.range n).map fun x => (List.range (2 * g)).map fun c => (act x c : Int)).length = n := by simp
  have hrow : ∀ x, x < n → Tb.row ((List.range n).map fun x => (List.range (2 * g)).map fun c => (act x c : Int)) x = (List.range (2 * g)).map fun c => (act x c : Int) := fun x hx => by
    unfold Tb.row; simp [List.getD_eq_getElem?_getD, hx]
  have hat : ∀ x c, x < n → c < 2 * g → Tb.at ((List.range n).map fun x => (List.range (2 * g)).map fun c => (act x c : Int)) x c = (act x c : Int) := fun x c hx hc => by
    unfold Tb.at
    rw [hrow x hx]; simp [List.getD_eq_getElem?_getD, hc]
  generalize ((List.range n).map fun x => (List.range (2 * g)).map fun c => (act x c : Int)) = u at *
  have hu : Full g u := by
    refine ⟨⟨hg.1, hg.2, by omega, by omega, fun r hr => by rw [hrow r (by omega)]; simp, fun r hr c hc => ?_, fun r hr c hc _ => ?_⟩, fun r hr c hc => by rw [hat r c (by omega) hc]; omega, fun x hx => ?_⟩
    · rw [hat r c (by omega) hc]
      have := hM.cl r c (by omega) hc
      omega
    · have h1 := hM.cl r c (by omega) hc
      rw [hat r c (by omega) hc, Int.toNat_natCast, hat _ _ h1 (flp_lt2 hc), hM.inv r c (by omega) hc]
    · rw [hlen] at hx
      induction x using Nat.strongRecOn with
      | _ x ih =>
        rcases Nat.eq_zero_or_pos x with h0 | h0
        · rw [h0]; exact .refl _
        · obtain ⟨p, c, h1, h2, h3⟩ := hP x h0 hx
          exact .step (ih p h1 (by omega)) h2 (by unfold Edge; rw [hat p c (by omega) h2, h3])
  -- the regular table maps onto t
  obtain ⟨φ, h1, h2, h3⟩ := hU (ht.full.mdl hr ht.rel) ht.full.good.n1
  have hH : Hm g u t φ := ⟨fun x hx => h2 x (by omega), fun x c y hx hc he => by
    have h4 := h3 x c (by omega) hc
    unfold Edge at he
    rw [hat x c (by omega) hc] at he
    have : act x c = y := by omega
    rw [this] at h4
    rw [h4]
    exact (ht.full.nx (h2 x (by omega)) hc).2⟩
  obtain ⟨k, hk⟩ := hH.dvd hu ht.full
  rw [hlen] at hk
  refine ⟨⟨k, hk⟩, fun hsub => ?_⟩
  obtain ⟨ψ, k1, k2, k3⟩ := ht.univ hM (show (0 : Nat) < n by omega) (fun j hj => absurd hj (by omega))
  have hH2 : Hm g t u ψ := ⟨fun x hx => by rw [hlen]; exact k2 x hx, fun x c y hx hc he => by
    unfold Edge
    rw [hat _ c (k2 x hx) hc, k3 x c y hx hc he]⟩
  obtain ⟨k', hk'⟩ := hH2.dvd ht.full hu
  rw [hlen] at hk'
  have hn0 := ht.full.good.n1
  have e1 : t.length ≤ n := by
    rcases Nat.eq_zero_or_pos k with h0 | h0
    · rw [h0] at hk; omega
    · rw [hk]; exact Nat.le_mul_of_pos_right _ h0
  have e2 : n ≤ t.length := by
    rcases Nat.eq_zero_or_pos k' with h0 | h0
    · rw [h0] at hk'; omega
    · rw [hk']; exact Nat.le_mul_of_pos_right _ h0
  omega
end Go.Proofs.Ct
namespace Go.Proofs.Ct
section
variable {g : Nat} {α : Type} {D : α → Prop} {act : α → Nat → α} {rels : List W}
theorem lok_redP {a : W} (h : LOk g a) : LOk g (red a) := fun x hx => h x (red_mem hx)
theorem Mdl.back (h : Mdl g rels D act) {p : α} (hp : D p) {x : Int} (hx : -(g : Int) ≤ x ∧ x ≤ g ∧ x ≠ 0) : act (act p (col x)) (col (-x)) = p := by
  rw [col_inv hx.2.2]
  exact h.inv p _ hp (col_ltL hx)
theorem Mdl.redW (h : Mdl g rels D act) {p : α} (hp : D p) : ∀ (n : Nat) (u : W), u.length = n → LOk g u → actW act p (red u) = actW act p u
  | 0, u, hu, _ => by rw [List.length_eq_zero_iff.1 hu]; rfl
  | n + 1, u, hu, hz => by
    rcases List.eq_nil_or_concat u with rfl | ⟨c, x, rfl⟩
    · cases hu
    · rw [List.concat_eq_append] at hu hz ⊢
      have hc : LOk g c := fun y hy => hz y (List.mem_append_left _ hy)
      have hx := hz x (List.mem_append_right _ (List.mem_singleton_self _))
      have ih := Mdl.redW h hp n c (by simpa using hu) hc
      rw [red_snoc, actW_app, ← ih]
      have hr := lok_redP hc
      generalize red c = s at *
      rcases List.eq_nil_or_concat s with rfl | ⟨d, y, rfl⟩
      · rw [push_nil]; rfl
      · rw [List.concat_eq_append] at hr ⊢
        rw [push_snoc]
        split
        · rename_i ho
          obtain ⟨h1, h2⟩ := opp_iff.1 ho
          subst h2
          have hd : LOk g d := fun z hz => hr z (List.mem_append_left _ hz)
          rw [actW_app]
          exact (h.back (h.clW hd hp) (hr y (List.mem_append_right _ (List.mem_singleton_self _)))).symm
        · rw [actW_app]
theorem Mdl.nil (h : Mdl g rels D act) : Mdl g [] D act := ⟨h.cl, h.inv, fun _ _i _ hi => absurd hi (Nat.not_lt_zero _)⟩
theorem Full.free {t : Tb} (h : Full g t) : Mdl g [] (fun x => x < t.length) (Ct.nx t) := h.mdl (fun _j hj => absurd hj (Nat.not_lt_zero _)) fun _ _ _j hj => absurd hj (Nat.not_lt_zero _)
end
section
variable {g : Nat} {t : Tb}
def enc (g : Nat) (p : Nat × Nat) : Nat := p.1 * g + p.2
end
end Go.Proofs.Ct
