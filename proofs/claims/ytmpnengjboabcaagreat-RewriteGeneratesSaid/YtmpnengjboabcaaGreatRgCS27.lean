/- The laws' presentations: they are valid; what Enumerate answers for them; The walk of CosetHolds; Calls as operations of a drawn region; what Enumerate answers, by blocks; tabled of chapter 21 (printed by genU2.py); Representatives lead to their cosets, plainly; Conjugates of subgroups, plainly: the standard table with another base; Free reduction, plainly: words up to cancelling; Rewriting in a Schreier system, plainly: products, tree words, telescoping (the law of RewriteBack); Schreier generators and rewriting, plainly: the law of RewriteBack; The plain law of CosetTower; What RewriteBack meets, plainly. -/
import Derived.Test.YtmpnengjboabcaaGreatRgCS24
import Derived.Test.YtmpnengjboabcaaGreatRgCS26
import Derived.Test.YtmpnengjboabcaaGreatRgCS25
import Derived.Test.YtmpnengjboabcaaGreatRgCS22
import Derived.Test.YtmpnengjboabcaaGreatRgCS1
import Derived.Test.YtmpnengjboabcaaGreatRgCS6
import Derived.Test.YtmpnengjboabcaaGreatRgCS23
namespace Go.Proofs
open Go.RowKit Go.Shelf Go.Proofs.Ct Go.Maps
theorem letBad_ok {g : Nat} {w : W} (h : LOk g w) : w.any (letBad g) = false := by
  rw [List.any_eq_false]
  intro x hx
  have := h x hx
  unfold letBad
  simp
  omega
theorem sumTo_short {l : List W} {m : Nat} (h : ∀ j, (l.getD j []).length ≤ m) : ∀ k, sumTo l k ≤ k * m
  | 0 => by simp [sumTo, foldTo]
  | k + 1 => by
    have := sumTo_short h k
    have := h k
    show sumTo l k + (l.getD k []).length ≤ (k + 1) * m
    rw [Nat.add_mul]
    omega
structure Wds (g : Nat) (l : List W) (n m : Nat) : Prop where
  len : l.length ≤ n
  short : ∀ j, (l.getD j []).length ≤ m
  ok : ∀ j, j < l.length → LOk g (l.getD j [])
theorem Wds.pres {g n m : Nat} {l : List W} (h : Wds g l n m) (hg : 1 ≤ g ∧ g ≤ 16) (hn : n ≤ 100) (hnm : n * m ≤ 4000) : presE g l = 0 := by
  refine presE_none hg (Nat.le_trans h.len hn) fun j hj => ?_
  unfold presBad
  have h1 := sumTo_short h.short (j + 1)
  have h2 : (j + 1) * m ≤ n * m := Nat.mul_le_mul_right _ (by have := h.len; omega)
  rw [if_neg (by omega), if_neg (by rw [letBad_ok (h.ok j hj)]; simp)]
theorem Wds.good {g n m : Nat} {l : List W} (h : Wds g l n m) (hn : n ≤ 100) (hnm : n * m ≤ 4000) {lim : Nat} (hl : 1 ≤ lim ∧ lim ≤ 20000) : badArgs g l (lim : Int) = false := by
  have h1 := sumTo_short h.short l.length
  have h2 : l.length * m ≤ n * m := Nat.mul_le_mul_right _ h.len
  have h3 := h.len
  have h4 : (l.any fun w => w.any (letBad g)) = false := by
    rw [List.any_eq_false]
    intro w hw
    obtain ⟨j, hj, rfl⟩ := List.mem_iff_getElem.1 hw
    have := h.ok j hj
    rw [List.getD_eq_getElem?_getD, List.getElem?_eq_getElem hj] at this
    have h5 := letBad_ok this
    simp only [Option.getD_some] at h5
    rw [h5]; simp
  unfold badArgs
  rw [h4]
  simp only [Bool.or_false, Bool.or_eq_false_iff, decide_eq_false_iff_not]
  omega
theorem mem_wordsTo {g most : Nat} (hg : 1 ≤ g) : ∀ (f : Nat) (l : List Int), ∀ w ∈ wordsTo g most f l, w.length ≤ most ∧ LOk g w
  | 0, _, w, h => by simp [wordsTo] at h
  | _ + 1, [], w, h => by simp [wordsTo] at h
  | f + 1, x :: l, w, h => by
    rw [wordsTo] at h
    rcases List.mem_cons.1 h with rfl | h
    · refine ⟨?_, fun y hy => ?_⟩
      · rw [length_wordOf, List.length_take]
        have := Int.emod_lt_of_pos x (show (0 : Int) < ((most + 1 : Nat) : Int) by omega)
        have := Int.emod_nonneg x (show ((most + 1 : Nat) : Int) ≠ 0 by omega)
        omega
      · unfold wordOf at hy
        obtain ⟨z, -, rfl⟩ := List.mem_map.1 hy
        have h1 := Int.emod_lt_of_pos z (show (0 : Int) < ((2 * g : Nat) : Int) by omega)
        have h2 := Int.emod_nonneg z (show ((2 * g : Nat) : Int) ≠ 0 by omega)
        exact letter_range (by omega)
    · exact mem_wordsTo hg f _ w h
theorem wds_of_mem {g n m : Nat} {l : List W} (hn : l.length ≤ n) (h : ∀ w ∈ l, w.length ≤ m ∧ LOk g w) : Wds g l n m := by
  refine ⟨hn, fun j => ?_, fun j hj => ?_⟩
  · rw [List.getD_eq_getElem?_getD]
    rcases Nat.lt_or_ge j l.length with hj | hj
    · rw [List.getElem?_eq_getElem hj]; exact (h _ (List.getElem_mem hj)).1
    · rw [List.getElem?_eq_none hj]; exact Nat.zero_le _
  · rw [List.getD_eq_getElem?_getD, List.getElem?_eq_getElem hj]
    exact (h _ (List.getElem_mem hj)).2
theorem wds_law {g : Nat} (hg : 1 ≤ g) (m : Nat) (l : List Int) : Wds g (lawWords g m l) m 12 := wds_of_mem (by unfold lawWords; rw [List.length_take]; omega) fun w hw => mem_wordsTo hg _ _ w (List.mem_of_mem_take hw)
def knownB (i : Nat) : Bool := decide (1 ≤ (knownT i).1 ∧ (knownT i).1 ≤ 3) && decide ((knownT i).2.1.length ≤ 6) && ((knownT i).2.1.all fun w => decide (w.length ≤ 60) && w.all fun x => decide (-(knownT i).1 ≤ x) && decide (x ≤ (knownT i).1) && decide (x ≠ 0))
theorem known_wds {i : Nat} (h : knownB i = true) : ∃ g : Nat, (knownT i).1 = (g : Int) ∧ 1 ≤ g ∧ g ≤ 3 ∧ Wds g (knownT i).2.1 6 60 := by
  unfold knownB at h
  simp only [Bool.and_eq_true, decide_eq_true_eq] at h
  obtain ⟨⟨⟨h1, h2⟩, h3⟩, h4⟩ := h
  refine ⟨(knownT i).1.toNat, by omega, by omega, by omega, wds_of_mem h3 fun w hw => ?_⟩
  have h5 := List.all_eq_true.1 h4 w hw
  simp only [Bool.and_eq_true, decide_eq_true_eq] at h5
  refine ⟨h5.1, fun x hx => ?_⟩
  have h6 := List.all_eq_true.1 h5.2 x hx
  simp only [Bool.and_eq_true, decide_eq_true_eq] at h6
  omega
theorem known_all : ∀ i, i < 14 → knownB i = true := by decide +kernel
theorem mod14 (x : Int) : (x % 14).toNat < 14 := by
  have h1 := Int.emod_nonneg x (show (14 : Int) ≠ 0 by omega)
  have h2 := Int.emod_lt_of_pos x (show (0 : Int) < 14 by omega)
  omega
theorem given_wds (m : Nat) (hm : m ≤ 6) (which : Int) (l : List Int) : ∃ g : Nat, (givenP m which l).1 = (g : Int) ∧ 1 ≤ g ∧ g ≤ 3 ∧ Wds g (givenP m which l).2 6 60 := by
  unfold givenP
  split
  · exact known_wds (known_all _ (mod14 _))
  · have h1 := Int.emod_nonneg (which.tdiv 2) (show (3 : Int) ≠ 0 by omega)
    have h2 := Int.emod_lt_of_pos (which.tdiv 2) (show (0 : Int) < 3 by omega)
    refine ⟨(1 + which.tdiv 2 % 3).toNat, by show (1 + which.tdiv 2 % 3) = _; omega, by omega, by omega, ?_⟩
    have := wds_law (g := (1 + which.tdiv 2 % 3).toNat) (by omega) m l
    exact ⟨Nat.le_trans this.len hm, fun j => Nat.le_trans (this.short j) (by omega), this.ok⟩
section
variable {g n m n' m' lim : Nat} {rels sub : List W}
structure EnumT (g : Nat) (rels sub : List W) (lim : Nat) (t : Tb) (d k : Nat) : Prop where
  coset : Coset g rels sub t
  n1 : 1 ≤ t.length
  live : t.length ≤ k
  most : k ≤ d
  room : d ≤ lim
  is : ∀ lim', d ≤ lim' → lim' ≤ 20000 → enumE g rels sub (lim' : Int) = (t, ((d : Int), (k : Int)), 0)
  less : ∀ lim', 1 ≤ lim' → lim' < d → enumE g rels sub (lim' : Int) = ([], (0, 0), 12)
theorem enum_cases (hg : 1 ≤ g ∧ g ≤ 16) (hp : presE g rels = 0) (hr : ∀ j, j < rels.length → LOk g (rels.getD j [])) (hs : ∀ j, j < sub.length → LOk g (sub.getD j [])) (hb : ∀ lim' : Nat, 1 ≤ lim' → lim' ≤ 20000 → badArgs g sub (lim' : Int) = false) (hl : 1 ≤ lim ∧ lim ≤ 20000) :
    enumE g rels sub (lim : Int) = ([], (0, 0), 12) ∨ ∃ t d k, EnumT g rels sub lim t d k := by
  cases hx : runS (2 * g) lim rels sub with
  | none => exact .inl (enumE_full hp (hb lim hl.1 hl.2) hx)
  | some s =>
    right
    obtain ⟨hG, -⟩ := run_good hl.1 hr hs hx
    obtain ⟨h1, h2, h3⟩ := coset_of_run hg.1 hg.2 hl.2 hl.1 hr hs hx
    obtain ⟨m1, m2⟩ := run_mi hl.1 hr hs hx
    have hlv := liv_live hG.rest
    have hm0 := hG.m0
    refine ⟨stdT (tabS s) 0, s.t.length, s.most.toNat, h1, h1.full.good.n1, by rw [h3]; omega, by omega, hG.n2, fun lim' ha hb' => ?_, fun lim' ha hb' => ?_⟩
    · have hn1 := hG.n1
      have h4 := run_mono hl.1 hr hs hx ha
      rw [enumE_some hp (hb lim' (by omega) hb') h4, h2, show ((s.most.toNat : Nat) : Int) = s.most by omega]
    · have hn2 := hG.n2
      exact enumE_full hp (hb lim' ha (by omega)) (run_less hl.1 hr hs hx ha hb')
end
end Go.Proofs
namespace Go.Proofs
open Go.RowKit Go.Shelf Go.Proofs.Ct Go.Maps
theorem cells40 {w : World} {b : Nat} {x y : Value} (h : w.heap[b]? = some (.cells #[x, y] 26 (0, 0))) : w.cell? ⟨b, 0, none⟩ = some x ∧ w.cell? ⟨b, 1, none⟩ = some y := by
  refine ⟨?_, ?_⟩ <;> (rw [cell_of_row _ _ _ _ _ _ h]; rfl)
theorem enumS (g : Int) (rels sub : List W) (limit : Int) (T : Tb) (a b c : Int) (h : enumE g rels sub limit = (T, (a, b), c)) (h1 : ∀ j, (sub.getD j []).length ≤ 100000) (h2 : sub.length ≤ 1000000) (W : World) (vr vs : Value) (hr : Tab W vr rels) (hs : Tab W vs sub) :
    Calls Tryz.prog 11 #[.agg #[.int .i64 g, vr], vs, .int .i64 limit] W fun e w' => (∃ u, e = .returned (.tuple #[u, .agg #[.int .i64 a, .int .i64 b, .int .i64 0], .int .i64 c]) ∧ Tab w' u T) ∧ Below W.heap.size W w' :=
  (enum32_any W vr vs g rels sub limit hr hs h1 h2).mono fun e w' (⟨⟨u, h5, h6⟩, h7⟩ : EnumPost g rels sub limit W e w') => by
    rw [h] at h5 h6
    exact ⟨⟨u, h5, h6⟩, h7⟩
theorem sameS (W : World) (a b : Value) (T : Tb) (h1 : Tab W a T) (h2 : Tab W b T) : Calls Tryz.prog 12 #[a, b] W fun e w'' => e = .returned (.bool true) ∧ Below W.heap.size W w'' :=
  (same18_any W a b _ _ h1 h2).mono fun _ _ ⟨h, q, h'⟩ => ⟨h.trans (ret_bool (decide_eq_true rfl)), h' ▸ below_drewN (Below.refl _ _) q⟩
theorem box40 (W : World) (x y : Value) : ∀ V, Below (W.alloc (.cells #[x, y] 26)).heap.size (W.alloc (.cells #[x, y] 26)) V → (Instr.loadAt 26 (.pointer (some ⟨W.heap.size, 0, none⟩))).run Tryz.prog V = .ok (.agg #[x, y]) V ∧ V.cell? ⟨W.heap.size, 0, none⟩ = some x := fun V h => by
  have h1 := (h.block W.heap.size (by simp)).trans (heap_alloc_new W (.cells #[x, y] 26))
  exact ⟨load40 h1, (cells40 h1).1⟩
end Go.Proofs
namespace Go.Proofs
open Go.RowKit Go.Shelf Go.Proofs.Ct Go.Maps
theorem call40 (args : Array Value) (w : World) : (callFunc 10 args).run Tryz.prog w = .ok (.enter 10 args) w := enters_of Tryz.func10 (by kernel_rfl) rfl args w
section
variable {o : Oper} {a : Act} {w w' : World} {n : Nat} {v : Value} {ops : Array Oper}
theorem r_call4 {f : FuncId} (x y z q : Operand) (u v s t : Value) (T : Array TypeId) (ho : o.op = .call { callee := .value (.func f), args := #[x, y, z, q], argTypes := T }) (hx : a.eval x = u) (hy : a.eval y = v) (hz : a.eval z = s) (hq : a.eval q = t)
    (he : ∀ args w, (callFunc f args).run Tryz.prog w = .ok (.enter f args) w) : (execOp a.eval o).run Tryz.prog w = .ok (.enter f #[u, v, s, t]) w := by
  have hf : a.eval (.func f) = .func (.func f) #[] #[] := rfl
  unfold execOp
  simp only [ho, resolve, List.map_toArray, List.map_cons, List.map_nil, hx, hy, hz, hq, hf]
  simp [go_sem, he]
theorem idx_offs {T E : TypeId} (hu : Tryz.prog.underlying T = some (.slice E)) (hs : ∀ w, (sizeOf E).run Tryz.prog w = .ok 1 w) (g off m c i : Nat) (hi : i < m) (w : World) :
    (Instr.indexAt T (.slice (some ⟨g, off, none⟩) m c) (.int .i64 (i : Int))).run Tryz.prog w = .ok (.pointer (some ⟨g, off + i, none⟩)) w := by
  have h1 : (0 : Int) ≤ (i : Int) ∧ (i : Int) < (m : Int) := ⟨by omega, by omega⟩
  have h2 := Addr.add_mid g off i
  simp [Instr.indexAt, asIntOf, run_underlying hu, hs, h2, hi]
end
section
variable {N : Nat} {wr : Nat → Bool} {us : Nat → Nat → Bool} {O : Nat → Nat → Prop} {i j : Nat} {w w' W0 : World} {base : Nat} {v : Value}
theorem step_setRow {q : Nat} (hj : j < N) (hu : us i j = true) (hw : wr j = true) (hq : O j q) (cs : Array Value) : Step N wr us O i (Mx N wr us O i w (w.setRow q cs)) w (w.setRow q cs) :=
  ⟨by rw [World.setRow]; simp, fun k _ hn => setRow_other _ _ _ _ fun e => hn j hj hu hw (by rw [e]; exact hq), fun _ h => h⟩
end
theorem agg25 (w : World) : (isAgg 39).run Tryz.prog w = .ok false w := by kernel_rfl
theorem size25 (w : World) : (sizeOf 39).run Tryz.prog w = .ok 1 w := by kernel_rfl
end Go.Proofs
namespace Go.Proofs
open Go.RowKit Go.Shelf Go.Proofs.Ct Go.Maps
theorem call98 (args : Array Value) (w : World) : (callFunc 22 args).run Tryz.prog w = .ok (.enter 22 args) w := enters_of Tryz.func22 (by kernel_rfl) rfl args w
theorem call33 (args : Array Value) (w : World) : (callFunc 23 args).run Tryz.prog w = .ok (.enter 23 args) w := enters_of Tryz.func23 (by kernel_rfl) rfl args w
theorem enumRB (g : Int) (rels sub : List W) (limit : Int) (T : Tb) (x y c : Int) (h : enumE g rels sub limit = (T, (x, y), c)) (h1 : ∀ j, (sub.getD j []).length ≤ 100000) (h2 : ∀ j, (rels.getD j []).length ≤ 100000) (h3 : sub.length ≤ 1000000) (W : World) (vr vs : Value) (hr : Tab W vr rels) (hs : Tab W vs sub) :
    Calls Tryz.prog 23 #[.agg #[.int .i64 g, vr], vs, .int .i64 limit] W fun e w' => (∃ A m, e = .returned (.tuple #[.slice A T.length m, .agg #[.int .i64 x, .int .i64 y, .int .i64 0], .int .i64 c]) ∧ TabB W.heap.size w' (.slice A T.length m) T) ∧ Below W.heap.size W w' :=
  (enum33_B W vr vs g rels sub limit hr hs h1 h2 h3).mono fun e w' (⟨⟨u, h5, h6⟩, h7⟩ : EnumPostB g rels sub limit W e w') => by
    rw [h] at h5 h6
    obtain ⟨A, m, rfl⟩ := Tab.form h6.at_
    exact ⟨⟨A, m, h5, h6⟩, h7⟩
def TabledPost (T : Tb) (e1 : Int) (w : World) (e : Ending) (w' : World) : Prop := (∃ A c, e = .returned (.tuple #[.slice A T.length c, .bool (decide (e1 = 0) && decide (T.length ≤ 40))]) ∧ Tab w' (.slice A T.length c) T) ∧ Below w.heap.size w w'
set_option maxRecDepth 100000 in
set_option maxHeartbeats 4000000 in
theorem tabled38_any (w : World) (vk : Value) (Ar : Option Addr) (cr g : Nat) (rels : List W) (k : List Int) (T : Tb) (d1 k1 e1 : Int) (hg : 1 ≤ g ∧ g ≤ 400) (hR : Tab w (.slice Ar rels.length cr) rels) (hk : IntsAt w vk k) (hkl : k.length ≤ 1000) (h1 : ∀ j, ((lawWords g 4 k).getD j []).length ≤ 100000) (h2 : ∀ j, (rels.getD j []).length ≤ 100000) (h3 : (lawWords g 4 k).length ≤ 1000000)
    (hE : enumE g rels (lawWords g 4 k) 300 = (T, (d1, k1), e1)) (he1 : e1 = 12 ∨ e1 = 0) (hTl : T.length ≤ 20000) : Calls Tryz.prog 7 #[.agg #[.int .i64 (g : Int), .slice Ar rels.length cr], vk] w (TabledPost T e1 w) := by
  obtain ⟨Ak, ck, rfl, -, -, -⟩ := hk.open_
  have HLD := Lib.hid (box40 w (.int .i64 (g : Int)) (.slice Ar rels.length cr))
  have hal := (Below.refl w.heap.size w).alloc (Nat.le_refl _) (.cells #[.int .i64 (g : Int), .slice Ar rels.length cr] 26)
  have HB0 := Lib.hid hal
  have H33 := Lib.hid (enumRB g rels (lawWords g 4 k) 300 T d1 k1 e1 hE h1 h2 h3)
  have HWD0 : Hid (∀ W, Below (w.alloc (.cells #[.int .i64 (g : Int), .slice Ar rels.length cr] 26)).heap.size (w.alloc (.cells #[.int .i64 (g : Int), .slice Ar rels.length cr] 26)) W → Calls Tryz.prog 22 #[.slice Ak k.length ck, .int .i64 (g : Int)] W (LawWordsPost (lawWords g 4 k) W)) := Lib.hid fun W h => words98_any W _ k g (kept_ints.below hk (bl3 hal h)) hg (by omega)
  have HTR : Hid (∀ W, Below (w.alloc (.cells #[.int .i64 (g : Int), .slice Ar rels.length cr] 26)).heap.size (w.alloc (.cells #[.int .i64 (g : Int), .slice Ar rels.length cr] 26)) W → Tab W (.slice Ar rels.length cr) rels) := Lib.hid fun W h => kept_tab.below hR (bl3 hal h)
  have HWD : Hid (∀ W, Below (w.alloc (.cells #[.int .i64 (g : Int), .slice Ar rels.length cr] 26)).heap.size (w.alloc (.cells #[.int .i64 (g : Int), .slice Ar rels.length cr] 26)) W → Calls Tryz.prog 22 #[.slice Ak k.length ck, .int .i64 (g : Int)] W fun e w' => (∃ A c, e = .returned (.slice A (lawWords g 4 k).length c) ∧ TabB W.heap.size w' (.slice A (lawWords g 4 k).length c) (lawWords g 4 k)) ∧ Below W.heap.size W w') := HWD0
  have hTl' : (T.length : Int) ≤ 20000 := by omega
  clear hal hR hk hE h1 h2 h3 HWD0 hg
  unfold TabledPost
  generalize lawWords g 4 k = sub at *
  go_enter Tryz.func7, Tryz.ntmps7
  go_wp2_with fail
  generalize hw3 : w.alloc (.cells #[.int .i64 (g : Int), .slice Ar rels.length cr] 26) = v3 at *
  clear hw3
  refine (wpIn_wide (n := 3)).1 ?_
  refine wpIn_region_own (by kernel_rfl) 14 rfl (fun i => ([some 10, some 11, some 12, some 13, some 14, some 15, some 9, some 16, some 17, some 18, some 7, some 6, none, some 8] : List (Option Nat)).getD i none) (lex_of (by kernel_rfl)) v3.heap.size (fun i => ([10] : List Nat).contains i) (fun i j => (([[], [], [], [2], [1, 3], [0, 4], [5], [6], [6], [6], [], [7], [10, 8], [9]] : List (List Nat)).getD i []).contains j) (fun W => Below v3.heap.size v3 W) (fun j v O W => (([.eq (.agg #[.int .i64 (g : Int), .slice Ar rels.length cr]), .eq (.slice Ak k.length ck), .eq (.pointer (some ⟨w.heap.size, 0, none⟩)), .eq (.int .i64 (g : Int)), .rd sub, .enum T d1 k1 e1, .enum T d1 k1 e1, .rd T, .eq (.agg #[.int .i64 d1, .int .i64 k1, .int .i64 0]), .eq (.int .i64 e1), .box 41 #[.int .i64 0, .int .i64 0, .int .i64 0], .rd T, .any, .eq (.int .i64 e1)] : List FP).getD j FP.any).holds v3.heap.size v O W) (by kernel_rfl) (by kernel_rfl) (dm_inj (by kernel_rfl)) (fun j v O W W' _ _ h hs h1 h2 => FP.keep rfl h1 h2 hs h) (dm_lt (n := 27) (by kernel_rfl)) (Nat.le_refl _) (Below.refl _ _).drew ?_ ?_
  · intro O ls q o a w2 hq ho hS hbw hls hP hpre hdj
    have hcases : q = 0 ∨ q = 1 ∨ q = 2 ∨ q = 3 ∨ q = 4 ∨ q = 5 ∨ q = 6 ∨ q = 7 ∨ q = 8 ∨ q = 9 ∨ q = 10 ∨ q = 11 ∨ q = 12 ∨ q = 13 := by
      have : q < 14 := hq
      omega
    rcases hcases with rfl | rfl | rfl | rfl | rfl | rfl | rfl | rfl | rfl | rfl | rfl | rfl | rfl | rfl
    · obtain rfl := Option.some.inj ho
      exact wpOpIn_of rfl rfl (wpW_val (r_loadAt 26 (.tmp 2) _ _ rfl (hP.out 2 (dm_out (by kernel_rfl))) (HLD.out _ hS).1) ⟨_, _, rfl, hS, (fun h => by simp at h), Step.same, rfl⟩)
    · obtain rfl := Option.some.inj ho
      exact wpOpIn_of rfl rfl (wpW_val (r_move (.tmp 1) rfl (hP.out 1 (dm_out (by kernel_rfl)))) ⟨_, _, rfl, hS, (fun h => by simp at h), Step.same, rfl⟩)
    · obtain rfl := Option.some.inj ho
      exact wpOpIn_of rfl rfl (wpW_val (r_fld (.tmp 2) _ rfl (hP.out 2 (dm_out (by kernel_rfl))) (by kernel_rfl)) ⟨_, _, rfl, hS, (fun h => by simp at h), Step.same, rfl⟩)
    · obtain rfl := Option.some.inj ho
      exact wpOpIn_of rfl rfl (wpW_val (r_load1 3 agg3 (.tmp 12) ⟨w.heap.size, 0, none⟩ rfl (hpre 2 (by decide) rfl).1 (HLD.out _ hS).2) ⟨_, _, rfl, hS, (fun h => by simp at h), Step.same, rfl⟩)
    · obtain rfl := Option.some.inj ho
      exact wpOpIn_of rfl rfl (wpW_call (R := fun v w' => (∃ A c, v = .slice A sub.length c ∧ TabB w2.heap.size w' (.slice A sub.length c) sub) ∧ Below w2.heap.size w2 w') (r_call2 (.tmp 11) (.tmp 13) _ _ _ rfl (hpre 1 (by decide) rfl).1 (hpre 3 (by decide) rfl).1 call98) ((HWD.out _ hS).mono fun e w' ⟨⟨A, c, he, ht⟩, hb⟩ => ⟨_, he, ⟨A, c, rfl, ht⟩, hb⟩)
        (fun v w'' ⟨⟨A, c, hv, ht⟩, hb⟩ => ⟨v, _, rfl, hS.trans (hb.mono hS.size), (fun h => by simp at h), Step.below hb, A, c, hv, (RdT.of_tabB ht).mono fun q hq => .inr (Mx.fresh hq.1 hq.2)⟩))
    · obtain rfl := Option.some.inj ho
      have k9 := hpre 4 (by decide) rfl
      obtain ⟨A, c, e9, t9⟩ := k9.1
      exact wpOpIn_of rfl rfl (wpW_call (R := fun v w' => (∃ A m, v = .tuple #[.slice A T.length m, .agg #[.int .i64 d1, .int .i64 k1, .int .i64 0], .int .i64 e1] ∧ TabB w2.heap.size w' (.slice A T.length m) T) ∧ Below w2.heap.size w2 w') (r_call3 (.tmp 10) (.tmp 14) (.const (.int .i64 300)) _ _ _ _ rfl (hpre 0 (by decide) rfl).1 e9 rfl call33) ((H33.out _ _ _ (HTR.out _ hS) t9.tab).mono fun e w' ⟨⟨A, m, he, ht⟩, hb⟩ => ⟨_, he, ⟨A, m, rfl, ht⟩, hb⟩)
        (fun v w'' ⟨⟨A, m, hv, ht⟩, hb⟩ => ⟨v, _, rfl, hS.trans (hb.mono hS.size), (fun h => by simp at h), Step.below hb, A, m, hv, (RdT.of_tabB ht).mono fun q hq => .inr (Mx.fresh hq.1 hq.2)⟩))
    · obtain rfl := Option.some.inj ho
      have k := hpre 5 (by decide) rfl
      exact wpOpIn_of rfl rfl (wpW_val (r_move (.tmp 15) rfl rfl) ⟨_, _, rfl, hS, (fun h => by simp at h), Step.same, FP.mono (fun q hq => Mx.of (j := 5) (by decide) rfl (by decide) hq (k.2 q hq).2) k.1⟩)
    · obtain rfl := Option.some.inj ho
      have k := hpre 6 (by decide) rfl
      obtain ⟨A, m, e11, t11⟩ := k.1
      exact wpOpIn_of rfl rfl (wpW_val (r_extract 0 (.tmp 9) _ rfl e11 rfl) ⟨_, _, rfl, hS, (fun h => by simp at h), Step.same, A, m, rfl, t11.mono fun q hq => hq.imp id fun h => Mx.of (j := 6) (by decide) rfl (by decide) h (k.2 q h).2⟩)
    · obtain rfl := Option.some.inj ho
      obtain ⟨A, m, e11, -⟩ := (hpre 6 (by decide) rfl).1
      exact wpOpIn_of rfl rfl (wpW_val (r_extract 1 (.tmp 9) _ rfl e11 rfl) ⟨_, _, rfl, hS, (fun h => by simp at h), Step.same, rfl⟩)
    · obtain rfl := Option.some.inj ho
      obtain ⟨A, m, e11, -⟩ := (hpre 6 (by decide) rfl).1
      exact wpOpIn_of rfl rfl (wpW_val (r_extract 2 (.tmp 9) _ rfl e11 rfl) ⟨_, _, rfl, hS, (fun h => by simp at h), Step.same, rfl⟩)
    · obtain rfl := Option.some.inj ho
      have hal : Below w2.heap.size w2 (w2.alloc (.cells #[.int .i64 0, .int .i64 0, .int .i64 0] 41)) := (Below.refl _ _).alloc (Nat.le_refl _) _
      exact wpOpIn_of rfl rfl (wpW_val (r_alloc49 rfl) ⟨_, _, rfl, hS.trans (hal.mono hS.size), (fun h => by simp at h), Step.below hal, w2.heap.size, rfl, Mx.fresh (Nat.le_refl _) (by simp), heap_alloc_new w2 _⟩)
    · obtain rfl := Option.some.inj ho
      have k := hpre 7 (by decide) rfl
      exact wpOpIn_of rfl rfl (wpW_val (r_assign (.tmp 16) rfl rfl) ⟨_, _, rfl, hS, (fun h => by simp at h), Step.same, FP.mono (fun q hq => Mx.of (j := 7) (by decide) rfl (by decide) hq (k.2 q hq).2) k.1⟩)
    · obtain rfl := Option.some.inj ho
      have k15 := hpre 10 (by decide) rfl
      obtain ⟨q, e15, o15, h15⟩ := k15.1
      exact wpOpIn_of rfl rfl (wpW_skip (r_store49 (.tmp 7) (.tmp 17) rfl q _ d1 k1 0 e15 (hpre 8 (by decide) rfl).1 h15 rfl) ⟨undef, _, rfl, below_setRow hS (k15.2 q o15).1 _, fun _ => rfl, step_setRow (j := 10) (by decide) rfl rfl o15 _, trivial⟩)
    · obtain rfl := Option.some.inj ho
      exact wpOpIn_of rfl rfl (wpW_val (r_assign (.tmp 18) rfl (hpre 9 (by decide) rfl).1) ⟨_, _, rfl, hS, (fun h => by simp at h), Step.same, rfl⟩)
  · intro O ls a w2 hall hS hbw hP hsl
    obtain ⟨vs, hvs, hfr⟩ := hP.frame 27 rfl
    obtain ⟨A6, c6, e6, r6⟩ := (hsl 11 (by decide) (.inl rfl)).1
    have e8 : a.tmps.getD 8 undef = .int .i64 e1 := (hsl 13 (by decide) (.inl rfl)).1
    have e6' : a.tmps.getD 6 undef = .slice A6 T.length c6 := e6
    rw [← hvs] at e6' e8
    have HU := Lib.hid r6.tab
    have HRN := Lib.hid hS
    clear hsl hP hall hS hvs r6 e6 H33 HWD hbw
    subst hfr
    dsimp only
    simp only [List.range, List.range.loop, List.map_cons, List.map_nil, List.any_cons, List.any_nil, Nat.reduceBEq, Option.some_beq_some, Option.none_beq_some, Bool.or_false, Bool.false_or, Bool.false_eq_true, if_true, if_false, List.getD_cons_zero, List.getD_cons_succ, e6', e8]
    have hT0 : (0 : Int) ≤ (T.length : Int) := Int.natCast_nonneg _
    rcases he1 with rfl | rfl
    · go_wp2_with fail
      go_ret2
      exact ⟨⟨A6, c6, rfl, HU.out⟩, bl3 HB0.out HRN.out⟩
    · by_cases h40 : T.length ≤ 40
      · have h40' : (T.length : Int) ≤ 40 := by omega
        go_wp2_with fail
        go_ret2
        exact ⟨⟨A6, c6, by simp, HU.out⟩, bl3 HB0.out HRN.out⟩
      · have h40' : 40 < (T.length : Int) := by omega
        go_wp2_with fail
        go_ret2
        exact ⟨⟨A6, c6, (by simp; omega), HU.out⟩, bl3 HB0.out HRN.out⟩
end Go.Proofs
namespace Go.Proofs.Ct
theorem col_letter (c : Nat) : col (letter c) = c := by
  unfold col letter
  split <;> split <;> omega
def RW (t : Tb) (out : List W) : Prop := ∀ j, j < out.length → Way t 0 (out.getD j []) j
section
variable {g : Nat} {t : Tb}
theorem repCol_len (r c : Nat) (out : List W) : out.length ≤ (repCol t r c out).length := by
  unfold repCol
  split
  · simp
  · exact Nat.le_refl _
theorem reps_ok (h : Full g t) (j : Nat) : LOk g ((reps t).getD j []) := reps_letter h.good j
theorem reps_len (h : Full g t) (hs : std t 0 = some t) : (reps t).length = t.length := (reps_length h.good (std_iff hs)).1
end
end Go.Proofs.Ct
namespace Go.Proofs.Ct
section
variable {g : Nat} {rels sub : List W} {t u : Tb}
theorem LOk.app {a b : W} (ha : LOk g a) (hb : LOk g b) : LOk g (a ++ b) := fun x hx => (List.mem_append.1 hx).elim (ha x) (hb x)
end
end Go.Proofs.Ct
namespace Go.Proofs.Ct
def pushL (st w : W) : W := w.foldl push st
theorem pushL_append (st a b : W) : pushL st (a ++ b) = pushL (pushL st a) b := List.foldl_append ..
theorem pushL_one (st : W) (x : Int) : pushL st [x] = push st x := rfl
theorem take_snoc0 {w : W} {k : Nat} (h : k < w.length) : w.take (k + 1) = w.take k ++ [w.getD k 0] := by
  rw [List.take_succ_eq_append_getElem h, List.getD_eq_getElem?_getD, List.getElem?_eq_getElem h]; rfl
theorem redTo_fold (w : W) : ∀ k, k ≤ w.length → redTo w k = pushL [] (w.take k)
  | 0, _ => rfl
  | k + 1, h => by
    show push (redTo w k) (w.getD k 0) = _
    rw [redTo_fold w k (by omega), take_snoc0 (by omega), pushL_append]
    rfl
theorem red_fold (w : W) : red w = pushL [] w := by
  unfold red
  rw [redTo_fold w _ (Nat.le_refl _), List.take_length]
theorem push_nil (x : Int) : push [] x = [x] := rfl
theorem push_snoc (st : W) (y x : Int) : push (st ++ [y]) x = if opp y x = true then st else st ++ [y] ++ [x] := by
  unfold push
  have h1 : (st ++ [y]).length - 1 = st.length := by simp
  rw [h1]
  have h2 : (st ++ [y]).getD st.length 0 = y := by simp [List.getD_eq_getElem?_getD]
  rw [h2]
  have h3 : (st ++ [y]).take st.length = st := by simp
  rw [h3]
  by_cases h : opp y x = true
  · rw [if_pos h, if_pos (by simp [h])]
  · rw [if_neg h, if_neg (by simp [h])]
theorem opp_iff {x y : Int} : opp x y = true ↔ x ≠ 0 ∧ y = -x := by
  unfold opp
  simp
def Rd (st : W) : Prop := ∀ a x y b, st = a ++ [x] ++ [y] ++ b → opp x y = false
theorem Rd.nil : Rd [] := fun a x y b h => by simp at h
theorem Rd.one (x : Int) : Rd [x] := fun a p q b h => by
  have := congrArg List.length h
  simp at this
  omega
theorem Rd.init {st : W} {y : Int} (h : Rd (st ++ [y])) : Rd st := fun a p q b e => h a p q (b ++ [y]) (by rw [e]; simp)
theorem Rd.last {st : W} {x y : Int} (h : Rd (st ++ [x] ++ [y])) : opp x y = false := h st x y [] (by simp)
theorem Rd.snoc {st : W} {x y : Int} (h : Rd (st ++ [x])) (hn : opp x y = false) : Rd (st ++ [x] ++ [y]) := fun a p q b e => by
  rcases List.eq_nil_or_concat b with rfl | ⟨b', z, rfl⟩
  · rw [List.append_nil] at e
    have h1 := List.append_inj' e rfl
    have h2 := List.append_inj' h1.1 rfl
    have e1 := List.cons.inj h1.2
    have e2 := List.cons.inj h2.2
    rw [← e1.1, ← e2.1]
    exact hn
  · rw [List.concat_eq_append, ← List.append_assoc] at e
    have h1 := List.append_inj' e rfl
    exact h a p q b' h1.1
theorem Rd.push {st : W} (h : Rd st) (x : Int) : Rd (push st x) := by
  rcases List.eq_nil_or_concat st with rfl | ⟨s, y, rfl⟩
  · exact Rd.one x
  · rw [List.concat_eq_append] at h ⊢
    rw [push_snoc]
    split
    · exact h.init
    · rename_i hn
      exact h.snoc (by simpa using hn)
theorem Rd.pushL {st : W} (h : Rd st) : ∀ (w : W), Rd (pushL st w) := fun w => by
  induction w generalizing st with
  | nil => exact h
  | cons x w ih => exact ih (h.push x)
theorem push_back {st : W} (h : Rd st) {x : Int} (hx : x ≠ 0) : push (push st x) (-x) = st := by
  rcases List.eq_nil_or_concat st with rfl | ⟨s, y, rfl⟩
  · rw [push_nil, ← List.nil_append [x], push_snoc, if_pos (opp_iff.2 ⟨hx, rfl⟩)]
  · rw [List.concat_eq_append] at h ⊢
    rw [push_snoc]
    by_cases ho : opp y x = true
    · rw [if_pos ho]
      obtain ⟨hy, rfl⟩ := opp_iff.1 ho
      rw [Int.neg_neg]
      rcases List.eq_nil_or_concat s with rfl | ⟨s', z, rfl⟩
      · rfl
      · rw [List.concat_eq_append] at h ⊢
        rw [push_snoc, if_neg (by rw [h.last]; simp)]
    · rw [if_neg ho, push_snoc, if_pos (opp_iff.2 ⟨hx, rfl⟩)]
def Nz (w : W) : Prop := ∀ x ∈ w, x ≠ 0
theorem Nz.app {a b : W} (ha : Nz a) (hb : Nz b) : Nz (a ++ b) := fun x hx => (List.mem_append.1 hx).elim (ha x) (hb x)
theorem Nz.left {a b : W} (h : Nz (a ++ b)) : Nz a := fun x hx => h x (List.mem_append.2 (.inl hx))
theorem Nz.red {a : W} (h : Nz a) : Nz (red a) := fun x hx => h x (red_mem hx)
theorem Nz.inv {a : W} (h : Nz a) : Nz (inv a) := fun x hx => by
  have := h _ (mem_inv hx)
  omega
theorem Nz.nil : Nz [] := fun x hx => by cases hx
theorem Nz.one {x : Int} (h : x ≠ 0) : Nz [x] := fun y hy => by
  rw [List.mem_singleton.1 hy]; exact h
theorem red_snoc (b : W) (x : Int) : red (b ++ [x]) = push (red b) x := by rw [red_fold, red_fold, pushL_append]; rfl
theorem pushL_red {st : W} (h : Rd st) : ∀ (n : Nat) (b : W), b.length = n → Nz b → pushL st (red b) = pushL st b
  | 0, b, hb, _ => by rw [List.length_eq_zero_iff.1 hb]; rfl
  | n + 1, b, hb, hz => by
    rcases List.eq_nil_or_concat b with rfl | ⟨c, x, rfl⟩
    · cases hb
    · rw [List.concat_eq_append] at hb hz ⊢
      have ih := pushL_red h n c (by simpa using hb) hz.left
      rw [red_snoc, pushL_append st c, pushL_one]
      rcases List.eq_nil_or_concat (red c) with hr | ⟨d, y, hr⟩
      · rw [hr] at ih ⊢
        rw [← ih]
        rfl
      · rw [List.concat_eq_append] at hr
        rw [hr] at ih ⊢
        rw [← ih, push_snoc]
        by_cases ho : opp y x = true
        · rw [if_pos ho]
          obtain ⟨hy, rfl⟩ := opp_iff.1 ho
          rw [pushL_append, pushL_one, push_back (h.pushL d) hy]
        · rw [if_neg ho, pushL_append]
          rfl
theorem pushL_red' {st : W} (h : Rd st) {b : W} (hz : Nz b) : pushL st (red b) = pushL st b := pushL_red h _ b rfl hz
theorem red_red {a : W} (h : Nz a) : red (red a) = red a := by rw [red_fold, pushL_red' Rd.nil h, ← red_fold]
theorem red_left {a : W} (b : W) (h : Nz a) : red (red a ++ b) = red (a ++ b) := by
  rw [red_fold, red_fold (a ++ b), pushL_append, pushL_append, pushL_red' Rd.nil h]
theorem red_right (a : W) {b : W} (h : Nz b) : red (a ++ red b) = red (a ++ b) := by
  rw [red_fold, red_fold (a ++ b), pushL_append, pushL_append, pushL_red' (Rd.nil.pushL a) h]
def Fe (a b : W) : Prop := red a = red b
theorem Fe.rfl' {a : W} : Fe a a := rfl
theorem Fe.symm {a b : W} (h : Fe a b) : Fe b a := Eq.symm h
theorem Fe.trans {a b c : W} (h : Fe a b) (k : Fe b c) : Fe a c := Eq.trans h k
theorem Fe.app {a b c d : W} (h : Fe a b) (k : Fe c d) (ha : Nz a) (hb : Nz b) (hc : Nz c) (hd : Nz d) : Fe (a ++ c) (b ++ d) := by
  show red (a ++ c) = red (b ++ d)
  rw [← red_left c ha, ← red_right _ hc, h, k, red_right _ hd, red_left d hb]
theorem fe_red {a : W} (h : Nz a) : Fe (red a) a := red_red h
theorem LOk.nz {g : Nat} {w : W} (h : LOk g w) : Nz w := fun x hx => (h x hx).2.2
theorem fe_pair {x : Int} (h : x ≠ 0) : Fe [x, -x] [] := by
  show red ([x] ++ [-x]) = []
  rw [red_snoc]
  show push (push [] x) (-x) = []
  exact push_back Rd.nil h
theorem fe_inv : ∀ {a : W}, Nz a → Fe (a ++ inv a) []
  | [], _ => rfl
  | x :: a, h => by
    have hx : x ≠ 0 := h x (by simp)
    have ha : Nz a := fun y hy => h y (by simp [hy])
    rw [inv_cons]
    have ih := fe_inv ha
    have e : x :: a ++ (inv a ++ [-x]) = [x] ++ (a ++ inv a) ++ [-x] := by simp
    rw [e]
    have h1 : Fe ([x] ++ (a ++ inv a)) [x] := Fe.app (b := [x]) (d := []) Fe.rfl' ih (Nz.one hx) (Nz.one hx) (ha.app ha.inv) Nz.nil
    have h2 := h1.app (Fe.rfl' (a := [-x])) ((Nz.one hx).app (ha.app ha.inv)) (Nz.one hx) (Nz.one (by omega)) (Nz.one (by omega))
    exact h2.trans (fe_pair hx)
theorem fe_inv' {a : W} (h : Nz a) : Fe (inv a ++ a) [] := by
  have := fe_inv h.inv
  rwa [inv_inv] at this
theorem Fe.inv {a b : W} (h : Fe a b) (ha : Nz a) (hb : Nz b) : Fe (Ct.inv a) (Ct.inv b) := by
  -- inv a = inv a b inv b = inv a a inv b = inv b
  have h1 : Fe (Ct.inv a ++ (b ++ Ct.inv b)) (Ct.inv a ++ []) := Fe.app Fe.rfl' (fe_inv hb) ha.inv ha.inv (hb.app hb.inv) Nz.nil
  rw [List.append_nil] at h1
  have h2 : Fe (Ct.inv a ++ a ++ Ct.inv b) (Ct.inv a ++ b ++ Ct.inv b) := Fe.app (Fe.app Fe.rfl' h ha.inv ha.inv ha hb) Fe.rfl' (ha.inv.app ha) (ha.inv.app hb) hb.inv hb.inv
  have h3 : Fe (Ct.inv a ++ a ++ Ct.inv b) ([] ++ Ct.inv b) := Fe.app (fe_inv' ha) Fe.rfl' (ha.inv.app ha) Nz.nil hb.inv hb.inv
  rw [List.append_assoc] at h2
  rw [List.append_assoc (Ct.inv a) b] at h2
  rw [List.append_assoc] at h3
  exact (h1.symm.trans h2.symm).trans h3
theorem mulW_fe (a b : W) (ha : Nz a) (hb : Nz b) : Fe (mulW a b) (a ++ b) := fe_red (ha.app hb)
theorem invW_fe (a : W) (ha : Nz a) : Fe (invW a) (inv a) := fe_red ha.inv
end Go.Proofs.Ct
namespace Go.Proofs.Ct
section
variable {g : Nat} {t : Tb} {R : List W}
def oneL (t : Tb) (R : List W) (g r : Nat) (x : Int) : W := if letN t R g r x ≠ 0 then [letN t R g r x] else []
def rl (t : Tb) (R : List W) (g : Nat) : Nat → W → W
  | _, [] => []
  | r, x :: w => oneL t R g r x ++ rl t R g (nx t r (col x)) w
theorem stepW_nx (r : Nat) (x : Int) : stepW t r x = nx t r (col x) := rfl
theorem rl_app (r : Nat) (u v : W) : rl t R g r (u ++ v) = rl t R g r u ++ rl t R g (actW (nx t) r u) v := by
  induction u generalizing r with
  | nil => rfl
  | cons x u ih =>
    show oneL t R g r x ++ rl t R g _ (u ++ v) = (oneL t R g r x ++ rl t R g _ u) ++ _
    rw [ih, List.append_assoc]
    rfl
theorem rl_one (r : Nat) (x : Int) : rl t R g r [x] = oneL t R g r x := List.append_nil _
theorem actW_one (r : Nat) (x : Int) : actW (nx t) r [x] = nx t r (col x) := rfl
theorem oneL_nz (r : Nat) (x : Int) : Nz (oneL t R g r x) := by
  unfold oneL
  split
  · rename_i h
    exact Nz.one h
  · exact Nz.nil
theorem letN_back (ht : Full g t) {r : Nat} (hr : r < t.length) {x : Int} (hx : -(g : Int) ≤ x ∧ x ≤ g ∧ x ≠ 0) : letN t R g (nx t r (col x)) (-x) = -letN t R g r x := by
  have hc : col x < 2 * g := col_ltL hx
  obtain ⟨h1, h2⟩ := ht.nx hr hc
  have h3 := ht.good.eback hr hc h2
  unfold letN
  by_cases h : 0 < x
  · rw [if_neg (by omega : ¬ 0 < -x), if_pos h]
    have e : col (-x) = flp (col x) := by unfold col flp; repeat (first | omega | split)
    have e2 : stepW t (nx t r (col x)) (-x) = r := by
      rw [stepW_nx, e]
      have : t.at (nx t r (col x)) (flp (col x)) = (r : Int) := h3
      unfold nx at this ⊢
      rw [this]
      rfl
    rw [e2]
    congr 3
    omega
  · rw [if_pos (by omega : 0 < -x), if_neg h, Int.neg_neg, stepW_nx]
theorem oneL_back (ht : Full g t) {r : Nat} (hr : r < t.length) {x : Int} (hx : -(g : Int) ≤ x ∧ x ≤ g ∧ x ≠ 0) : oneL t R g (nx t r (col x)) (-x) = inv (oneL t R g r x) := by
  unfold oneL
  rw [letN_back ht hr hx]
  by_cases h : letN t R g r x = 0
  · rw [h]; rfl
  · rw [if_pos (by omega), if_pos h]; rfl
theorem nx_back (ht : Full g t) {r : Nat} (hr : r < t.length) {x : Int} (hx : -(g : Int) ≤ x ∧ x ≤ g ∧ x ≠ 0) : nx t (nx t r (col x)) (col (-x)) = r := by
  have hc : col x < 2 * g := col_ltL hx
  obtain ⟨h1, h2⟩ := ht.nx hr hc
  have h3 := ht.good.eback hr hc h2
  have e : col (-x) = flp (col x) := by unfold col flp; repeat (first | omega | split)
  have : t.at (nx t r (col x)) (flp (col x)) = (r : Int) := h3
  rw [e]
  unfold nx at this ⊢
  rw [this]
  rfl
def Grown (g : Nat) (t : Tb) (out : List W) : Prop := ∀ j, j < out.length → (j = 0 ∧ out.getD j [] = []) ∨ ∃ i c, i < j ∧ c < 2 * g ∧ t.at i c = (j : Int) ∧ out.getD j [] = out.getD i [] ++ [letter c]
theorem Grown.col {out : List W} (h : Grown g t out) {r c : Nat} (hr : r < out.length) (hc : c < 2 * g) : Grown g t (repCol t r c out) := by
  unfold repCol
  split
  · rename_i he
    intro j hj
    rcases Nat.lt_or_ge j out.length with h1 | h1
    · have e : ∀ i, i < out.length → (out ++ [out.getD r [] ++ [letter c]]).getD i [] = out.getD i [] := fun i hi => by simp [List.getD_eq_getElem?_getD, List.getElem?_append_left hi]
      rw [e j h1]
      rcases h j h1 with h2 | ⟨i, c', h2, h3, h4, h5⟩
      · exact .inl h2
      · exact .inr ⟨i, c', h2, h3, h4, by rw [e i (by omega)]; exact h5⟩
    · obtain rfl : j = out.length := by simp at hj; omega
      refine .inr ⟨r, c, hr, hc, he, ?_⟩
      have e1 : (out ++ [out.getD r [] ++ [letter c]]).getD out.length [] = out.getD r [] ++ [letter c] := by simp [List.getD_eq_getElem?_getD]
      have e2 : (out ++ [out.getD r [] ++ [letter c]]).getD r [] = out.getD r [] := by simp [List.getD_eq_getElem?_getD, List.getElem?_append_left hr]
      rw [e1, e2]
  · exact h
theorem Grown.row {out : List W} (h : Grown g t out) {r : Nat} (hr : r < out.length) (hl : (t.row r).length = 2 * g) : Grown g t (repRow t r out) :=
  (foldTo_inv (p := fun _ out => Grown g t out ∧ r < out.length) ⟨h, hr⟩ _ fun c x hc ⟨h1, h2⟩ => ⟨h1.col h2 (by omega), Nat.lt_of_lt_of_le h2 (repCol_len r c x)⟩).1
theorem reps_grown (h : Full g t) (hs : std t 0 = some t) : Grown g t (reps t) := by
  have hS := std_iff hs
  have key : ∀ r, r ≤ t.length → Grown g t (foldTo (repRow t) r [[]]) := fun r => by
    induction r with
    | zero =>
      intro _ j hj
      obtain rfl : j = 0 := by simp [foldTo] at hj; omega
      exact .inl ⟨rfl, rfl⟩
    | succ r ih =>
      intro hr
      obtain ⟨m, h1, -, h2⟩ := rep_at h.good hS r (by omega)
      exact (ih (by omega)).row (by rw [h2.ol]; exact h1 (by omega)) (h.good.len r (by omega))
  exact key t.length (Nat.le_refl _)
theorem oneL_tree (ht : Full g t) {i c j : Nat} (hi : i < t.length) (hc : c < 2 * g) (he : t.at i c = (j : Int)) (hR : R.getD j [] = R.getD i [] ++ [letter c]) : oneL t R g i (letter c) = [] := by
  have hj : nx t i c = j := by unfold nx; rw [he]; rfl
  have hl := letter_range hc
  have z : letN t R g i (letter c) = 0 := by
    unfold letN
    by_cases h : c % 2 = 1
    · have e : letter c = -((c / 2 : Nat) + 1) := by unfold letter; rw [if_pos h]
      rw [if_neg (by omega), stepW_nx, col_letter, hj]
      have e2 : (-letter c - 1).toNat = c / 2 := by omega
      rw [e2]
      have hn : nt t R j (c / 2) = false := by
        have hd : dest t j (c / 2) = i := by
          have h3 := ht.good.eback hi hc he
          have e3 : flp c = 2 * (c / 2) := by unfold flp; rw [if_neg (by omega)]; omega
          unfold dest
          have h4 : t.at j (flp c) = (i : Int) := h3
          rw [e3] at h4
          rw [h4]
          rfl
        unfold nt
        rw [hd, hR, e]
        simp
      unfold number
      rw [if_neg (by simp [hn])]
      rfl
    · have e : letter c = (c / 2 : Nat) + 1 := by unfold letter; rw [if_neg h]
      rw [if_pos (by omega)]
      have e2 : (letter c - 1).toNat = c / 2 := by omega
      rw [e2]
      have hn : nt t R i (c / 2) = false := by
        have hd : dest t i (c / 2) = j := by
          unfold dest
          rw [show 2 * (c / 2) = c by omega, he]
          rfl
        unfold nt
        rw [hd, hR, e]
        simp
      unfold number
      rw [if_neg (by simp [hn])]
  unfold oneL
  rw [if_neg (by simpa using z)]
theorem rl_rep (ht : Full g t) (hs : std t 0 = some t) : ∀ j, j < t.length → rl t (reps t) g 0 ((reps t).getD j []) = [] ∧ actW (nx t) 0 ((reps t).getD j []) = j := by
  intro j
  induction j using Nat.strongRecOn with
  | _ j ih =>
    intro hj
    have hlen := reps_len ht hs
    rcases reps_grown ht hs j (by omega) with ⟨rfl, h2⟩ | ⟨i, c, h1, h2, h3, h4⟩
    · rw [h2]
      exact ⟨rfl, rfl⟩
    · obtain ⟨i1, i2⟩ := ih i h1 (by omega)
      rw [h4, rl_app, actW_app, i1, i2, rl_one, actW_one, col_letter, oneL_tree ht (by omega) h2 h3 h4]
      refine ⟨rfl, ?_⟩
      unfold nx
      rw [h3]
      rfl
def word1 (G : List W) (x : Int) : W := if 0 < x then G.getD (x - 1).toNat [] else inv (G.getD (-x - 1).toNat [])
def wordS (G : List W) (w : W) : W := w.flatMap (word1 G)
theorem wordS_app (G : List W) (u v : W) : wordS G (u ++ v) = wordS G u ++ wordS G v := List.flatMap_append
theorem wordS_one (G : List W) (x : Int) : wordS G [x] = word1 G x := List.append_nil _
theorem wordS_nz {G : List W} (hG : ∀ j, Nz (G.getD j [])) (w : W) : Nz (wordS G w) := fun y hy => by
  obtain ⟨x, -, h⟩ := List.mem_flatMap.1 hy
  unfold word1 at h
  split at h
  · exact hG _ y h
  · exact (hG _).inv y h
theorem word1_neg (G : List W) {x : Int} (hx : x ≠ 0) : word1 G (-x) = inv (word1 G x) := by
  unfold word1
  by_cases h : 0 < x
  · rw [if_neg (by omega), if_pos h, Int.neg_neg]
  · rw [if_pos (by omega), if_neg h, inv_inv]
theorem wordS_inv (G : List W) : ∀ {w : W}, Nz w → wordS G (inv w) = inv (wordS G w)
  | [], _ => rfl
  | x :: w, h => by
    have hx : x ≠ 0 := h x (by simp)
    rw [inv_cons, wordS_app, wordS_inv G (fun y hy => h y (by simp [hy])), wordS_one, word1_neg G hx]
    show _ = inv (wordS G ([x] ++ w))
    rw [wordS_app, wordS_one, inv_app]
end
end Go.Proofs.Ct
namespace Go.Proofs.Ct
section
variable {g : Nat} {t : Tb} {R : List W}
theorem pairRow_nodup (gens r : Nat) (h : (pairTo t R gens r).Nodup) : ∀ k, (pairRow t R r k (pairTo t R gens r)).Nodup
  | 0 => h
  | k + 1 => by
    have ih := pairRow_nodup gens r h k
    rw [pairRow_succ]
    split
    · refine List.nodup_append.2 ⟨ih, by simp, fun a ha b hb => ?_⟩
      rw [List.mem_singleton] at hb
      subst hb
      intro e
      subst e
      exact pair_new t R gens r k ha
    · exact ih
theorem pairTo_nodup (gens : Nat) : ∀ r, (pairTo t R gens r).Nodup
  | 0 => List.nodup_nil
  | r + 1 => by rw [pairTo_succ]; exact pairRow_nodup gens r (pairTo_nodup gens r) gens
def gensW (t : Tb) (R : List W) (g : Nat) : List W := (pairs t R g).map (schr t R)
theorem length_gensW : (gensW t R g).length = (pairs t R g).length := by simp [gensW]
theorem gensW_get {i : Nat} (h : i < (pairs t R g).length) : (gensW t R g).getD i [] = schr t R ((pairs t R g).getD i (0, 0)) := by
  unfold gensW
  rw [List.getD_eq_getElem?_getD, List.getElem?_map, List.getD_eq_getElem?_getD, List.getElem?_eq_getElem h]
  rfl
theorem pairs_get {i : Nat} (h : i < (pairs t R g).length) : ((pairs t R g).getD i (0, 0)).1 < t.length ∧ ((pairs t R g).getD i (0, 0)).2 < g ∧ nt t R ((pairs t R g).getD i (0, 0)).1 ((pairs t R g).getD i (0, 0)).2 = true := by
  have := List.getElem_mem h
  rw [List.getD_eq_getElem?_getD, List.getElem?_eq_getElem h]
  exact mem_pairTo this
theorem dest_nx (r h : Nat) : dest t r h = nx t r (col ((h + 1 : Nat) : Int)) := by
  unfold dest nx
  congr 2
  unfold col
  rw [if_pos (by omega)]
  omega
theorem gen_ok {g h : Nat} (hh : h < g) : -(g : Int) ≤ ((h + 1 : Nat) : Int) ∧ ((h + 1 : Nat) : Int) ≤ g ∧ ((h + 1 : Nat) : Int) ≠ 0 := by omega
theorem schr_nz (hR : ∀ j, LOk g (R.getD j [])) {r h : Nat} (_hh : h < g) : Nz (R.getD r [] ++ [((h + 1 : Nat) : Int)]) := (hR r).nz.app (Nz.one (by omega))
theorem schr_fe (hR : ∀ j, LOk g (R.getD j [])) {r h : Nat} (hh : h < g) : Fe (schr t R (r, h)) (R.getD r [] ++ [((h + 1 : Nat) : Int)] ++ inv (R.getD (nx t r (col ((h + 1 : Nat) : Int))) [])) := by
  unfold schr
  show Fe (mulW _ (invW (R.getD (dest t r h) []))) _
  rw [dest_nx]
  have hn := (hR (nx t r (col ((h + 1 : Nat) : Int)))).nz
  exact (mulW_fe _ _ (schr_nz hR hh) hn.inv.red).trans ((Fe.rfl').app (invW_fe _ hn) (schr_nz hR hh) (schr_nz hR hh) hn.inv.red hn.inv)
theorem schr_ok (hR : ∀ j, LOk g (R.getD j [])) {r h : Nat} (hh : h < g) : LOk g (schr t R (r, h)) := fun x hx => by
  have h1 := red_mem hx
  rcases List.mem_append.1 h1 with h2 | h2
  · rcases List.mem_append.1 h2 with h3 | h3
    · exact hR r x h3
    · rw [List.mem_singleton.1 h3]
      exact gen_ok hh
  · exact (hR _).inv x (red_mem h2)
theorem gensW_ok (hR : ∀ j, LOk g (R.getD j [])) (i : Nat) : LOk g ((gensW t R g).getD i []) := by
  rcases Nat.lt_or_ge i (pairs t R g).length with h | h
  · rw [gensW_get h]
    exact schr_ok hR (pairs_get h).2.1
  · rw [List.getD_eq_getElem?_getD, List.getElem?_eq_none (by rw [length_gensW]; exact h)]
    exact fun x hx => by cases hx
theorem oneL_pos (_ht : Full g t) (hR : ∀ j, LOk g (R.getD j [])) {r h : Nat} (hr : r < t.length) (hh : h < g) :
    Fe (wordS (gensW t R g) (oneL t R g r ((h + 1 : Nat) : Int))) (R.getD r [] ++ [((h + 1 : Nat) : Int)] ++ inv (R.getD (nx t r (col ((h + 1 : Nat) : Int))) [])) := by
  have hx := gen_ok hh
  have hN : letN t R g r ((h + 1 : Nat) : Int) = number t R g r h := by
    unfold letN
    rw [if_pos (by omega)]
    congr 1
    omega
  have hz := (hR (nx t r (col ((h + 1 : Nat) : Int)))).nz
  have hzr := (hR r).nz
  by_cases hn : nt t R r h = true
  · have hm : (r, h) ∈ pairs t R g := by
      have hpre : pairRow t R r (h + 1) (pairTo t R g r) <+: pairs t R g := (pairRow_mono t R r (by omega : h + 1 ≤ g) _).trans (pairTo_mono t R g (by omega : r + 1 ≤ t.length))
      rw [pairRow_succ, if_pos hn] at hpre
      exact hpre.subset (by simp)
    have hp := place_number (t := t) (R := R) (gens := g) (n := t.length) hr hh
    have hp2 : placeP (pairs t R g) r h = ((pairs t R g).idxOf (r, h) : Int) + 1 := if_pos hm
    have hi := List.idxOf_lt_length_of_mem hm
    have hg : (pairs t R g).getD ((pairs t R g).idxOf (r, h)) (0, 0) = (r, h) := by
      rw [List.getD_eq_getElem?_getD, List.getElem?_eq_getElem hi, List.getElem_idxOf hi]
      rfl
    unfold oneL
    rw [hN, ← hp]
    show Fe (wordS _ (if placeP (pairs t R g) r h ≠ 0 then [placeP (pairs t R g) r h] else [])) _
    rw [hp2, if_pos (by omega), wordS_one]
    unfold word1
    rw [if_pos (by omega), show (((pairs t R g).idxOf (r, h) : Int) + 1 - 1).toNat = (pairs t R g).idxOf (r, h) by omega, gensW_get hi, hg]
    exact schr_fe hR hh
  · have hz0 : number t R g r h = 0 := by unfold number; rw [if_neg hn]
    unfold oneL
    rw [hN, hz0, if_neg (by simp)]
    show Fe [] _
    refine Fe.symm ?_
    have hn' : nt t R r h = false := by simpa using hn
    unfold nt at hn'
    rw [dest_nx] at hn'
    simp only [Bool.and_eq_false_iff, Bool.not_eq_false', decide_eq_true_eq] at hn'
    rcases hn' with e | e
    · rw [← e]
      exact fe_inv hz
    · rw [e]
      have e2 : R.getD (nx t r (col ((h + 1 : Nat) : Int))) [] ++ [-((h + 1 : Nat) : Int)] ++ [((h + 1 : Nat) : Int)] = R.getD (nx t r (col ((h + 1 : Nat) : Int))) [] ++ [-((h + 1 : Nat) : Int), -(-((h + 1 : Nat) : Int))] := by simp
      rw [e2]
      have h1 := Fe.app (a := R.getD (nx t r (col ((h + 1 : Nat) : Int))) []) Fe.rfl' (fe_pair (x := -((h + 1 : Nat) : Int)) (by omega)) hz hz (fun y hy => by simp at hy; omega) Nz.nil
      rw [List.append_nil] at h1
      exact (h1.app Fe.rfl' (hz.app (fun y hy => by simp at hy; omega)) hz hz.inv hz.inv).trans (fe_inv hz)
theorem oneL_fe (ht : Full g t) (hR : ∀ j, LOk g (R.getD j [])) {r : Nat} (hr : r < t.length) {x : Int} (hx : -(g : Int) ≤ x ∧ x ≤ g ∧ x ≠ 0) :
    Fe (wordS (gensW t R g) (oneL t R g r x)) (R.getD r [] ++ [x] ++ inv (R.getD (nx t r (col x)) [])) := by
  by_cases h : 0 < x
  · obtain ⟨h', rfl⟩ : ∃ h' : Nat, x = ((h' + 1 : Nat) : Int) := ⟨(x - 1).toNat, by omega⟩
    exact oneL_pos ht hR hr (by omega)
  · obtain ⟨h', e⟩ : ∃ h' : Nat, -x = ((h' + 1 : Nat) : Int) := ⟨(-x - 1).toNat, by omega⟩
    have hs := (ht.nx hr (col_ltL hx)).1
    have h1 := oneL_back (R := R) ht hs (x := -x) (by omega)
    rw [Int.neg_neg, nx_back ht hr hx] at h1
    rw [h1, wordS_inv _ (oneL_nz _ _)]
    have h2 := oneL_pos (R := R) ht hR hs (h := h') (by omega)
    rw [← e, nx_back ht hr hx] at h2
    have hG : ∀ j, Nz ((gensW t R g).getD j []) := fun j => (gensW_ok hR j).nz
    have h3 := h2.inv (wordS_nz hG _) ((((hR _).nz.app (Nz.one (by omega))).app (hR _).nz.inv))
    rw [inv_app, inv_app, inv_inv, show inv [-x] = [x] by simp [inv], ← List.append_assoc] at h3
    exact h3
theorem letN_bd {r : Nat} (ht : Full g t) (hr : r < t.length) {x : Int} (hx : -(g : Int) ≤ x ∧ x ≤ g ∧ x ≠ 0) : -((pairs t R g).length : Int) ≤ letN t R g r x ∧ letN t R g r x ≤ (pairs t R g).length := by
  have key : ∀ r, r < t.length → ∀ h, h < g → 0 ≤ number t R g r h ∧ number t R g r h ≤ (pairs t R g).length := fun r hr h hh => by
    have hp := place_number (t := t) (R := R) (gens := g) (n := t.length) hr hh
    rw [← hp]
    show 0 ≤ placeP (pairs t R g) r h ∧ placeP (pairs t R g) r h ≤ _
    unfold placeP
    split
    · rename_i hm
      have := List.idxOf_lt_length_of_mem hm
      omega
    · omega
  unfold letN
  split
  · have := key r hr (x - 1).toNat (by omega)
    omega
  · have := key (stepW t r x) (ht.nx hr (col_ltL hx)).1 (-x - 1).toNat (by omega)
    omega
end
end Go.Proofs.Ct
namespace Go.Proofs
open Go.RowKit Go.Shelf Go.Proofs.Ct Go.Maps
section
variable {g : Nat} {rels sub : List W} {t u : Tb}
theorem traceE_good (h : Full g t) {r : Nat} (hr : r < t.length) {ws : W} (hw : LOk g ws) : traceE g t r ws = (((actW (nx t) r ws : Nat) : Int), true) := by
  have h1 : leads t r ws = ((actW (nx t) r ws : Nat) : Int) := leads_iff.2 (h.way hw hr).2
  unfold traceE
  rw [check_of_good h.good, if_neg (by simp), if_neg (by omega), Int.toNat_natCast, if_neg (by rw [letBad_ok hw]; simp), h1, if_neg (by omega)]
  simp
theorem repsE_full (h : Full g t) (hs : std t 0 = some t) : repsE g t = (reps t, 0) := by
  unfold repsE
  rw [check_of_good h.good, if_neg (by simp), if_pos hs]
end
end Go.Proofs
namespace Go.Proofs
open Go.RowKit Go.Shelf Go.Proofs.Ct Go.Maps
theorem gensTo_W (t : Tb) (R : List W) (g : Nat) : gensTo t R (pairs t R g) (pairs t R g).length = gensW t R g := by
  apply List.ext_getElem
  · rw [length_gensTo, length_gensW]
  · intro i h1 h2
    rw [length_gensTo] at h1
    have e1 : (gensTo t R (pairs t R g) (pairs t R g).length)[i] = schr t R ((pairs t R g).getD i (0, 0)) := by simp [gensTo]
    rw [e1, ← gensW_get h1, List.getD_eq_getElem?_getD, List.getElem?_eq_getElem h2]
    rfl
section
variable {g : Nat} {t : Tb}
theorem gensE_good (h : Full g t) (hs : std t 0 = some t) (hl : t.length ≤ 40) (hg : g ≤ 16) : gensE g t = (gensW t (reps t) g, 0) := by
  have hp := pairs_length t (reps t) g
  have : t.length * g ≤ 40 * 16 := Nat.mul_le_mul hl hg
  unfold gensE
  rw [repsE_full h hs, if_neg (by simp), Int.toNat_natCast, if_neg (by omega), gensTo_W]
theorem schr_len (h : Full g t) (hs : std t 0 = some t) (i : Nat) : ((gensW t (reps t) g).getD i []).length ≤ 2 * t.length + 1 := by
  rcases Nat.lt_or_ge i (pairs t (reps t) g).length with hi | hi
  · rw [gensW_get hi]
    obtain ⟨h1, h2, -⟩ := pairs_get hi
    generalize (pairs t (reps t) g).getD i (0, 0) = p at *
    obtain ⟨r, k⟩ := p
    have hl := (reps_length h.good (std_iff hs)).2
    have a1 := hl r h1
    have hd : dest t r k < t.length := by
      rw [dest_nx]
      exact (h.nx h1 (col_ltL (gen_ok h2))).1
    have a2 := hl _ hd
    unfold schr mulW
    refine Nat.le_trans (red_length _) ?_
    rw [List.length_append, List.length_append]
    have a3 := red_length (inv ((reps t).getD (dest t r k) []))
    rw [length_inv] at a3
    show ((reps t).getD r []).length + 1 + (invW ((reps t).getD (dest t r k) [])).length ≤ _
    unfold invW
    have h1' : r < t.length := h1
    omega
  · rw [List.getD_eq_getElem?_getD, List.getElem?_eq_none (by rw [length_gensW]; exact hi)]
    exact Nat.zero_le _
end
theorem back_all (which : Int) (l k : List Int) : ∃ g : Nat, (givenP 4 which l).1 = (g : Int) ∧ 1 ≤ g ∧ g ≤ 3 ∧ Wds g (givenP 4 which l).2 6 60 ∧ Wds g (lawWords g 4 k) 4 12 ∧
    ∃ (T : Tb) (d1 k1 e1 : Int), enumE g (givenP 4 which l).2 (lawWords g 4 k) 300 = (T, (d1, k1), e1) ∧ (e1 = 12 ∨ e1 = 0) ∧ T.length ≤ 300 ∧ (e1 = 0 → Coset g (givenP 4 which l).2 (lawWords g 4 k) T) := by
  obtain ⟨g, h1, h2, h3, h4⟩ := given_wds 4 (by omega) which l
  have h5 := wds_law h2 4 k
  have hp := h4.pres ⟨h2, by omega⟩ (by omega) (by omega)
  refine ⟨g, h1, h2, h3, h4, h5, ?_⟩
  rcases enum_cases (lim := 300) ⟨h2, by omega⟩ hp h4.ok h5.ok (fun lim' a b => h5.good (by omega) (by omega) ⟨a, b⟩) (by omega) with c1 | ⟨t, d, q, c1⟩
  · exact ⟨_, _, _, _, c1, .inl rfl, Nat.zero_le _, fun h => by cases h⟩
  · exact ⟨_, _, _, _, c1.is 300 c1.room (by omega), .inr rfl, by have := c1.live; have := c1.most; have := c1.room; omega, fun _ => c1.coset⟩
end Go.Proofs
