/- Words for memory: a slice that reads as a list of values; nothing of the program; The plain functions of collection: what program and reference both compute. No program in sight; The collector's memory, and the contracts of (*collector).times and (*collector).by; By; T3; Tm; Of0; Plain: the overlaps, in the order in which both texts compare them. -/
import Derived.WalkKit
import Derived.WalkSpells
import Derived.WalkLawsBesides
import Derived.Lib.Hide
import Derived.Deep.QuietTactic
import Derived.BigQuiet
import Derived.KernelRfl
import Derived.Test.YtffkmchmakfcpaaProg
import Derived.Deep.MidRow
import Derived.Deep.WholeRow
import Derived.Lib.SliceRun
import Derived.BigRegion
import Derived.ChangeAlike
namespace Go.Proofs
open Go.RowKit
/-- The cells from b, off on hold vs. -/
def Row (w : World) (b off : Nat) (vs : List Value) : Prop := ∀ j v, vs[j]? = some v → w.cell? ⟨b, off + j, none⟩ = some v
/-- The slice value v reads as the list vs (elements of one cell). -/
def Sl (w : World) (v : Value) (vs : List Value) : Prop :=
  ∃ A n cap, v = .slice A n cap ∧ n = vs.length ∧ n ≤ cap ∧ cap ≤ maxLen ∧ (0 < n → ∃ b off, A = some ⟨b, off, none⟩ ∧ Row w b off vs)
def ints (xs : List Int) : List Value := xs.map (Value.int .i64)
def Fits (xs : List Int) : Prop := ∀ x ∈ xs, -9223372036854775808 ≤ x ∧ x ≤ 9223372036854775807
def IntsAt (w : World) (v : Value) (xs : List Int) : Prop := Sl w v (ints xs) ∧ Fits xs
section
variable {w w' : World} {v : Value} {vs : List Value}
theorem Row.lt {b off : Nat} (h : Row w b off vs) (hn : 0 < vs.length) : b < w.heap.size := by
  have := h 0 _ (List.getElem?_eq_getElem hn)
  exact World.block_lt_of_cell? w _ this
theorem Row.keep {b off : Nat} (h : Row w b off vs) (hk : ∀ p : Addr, p.block < w.heap.size → w'.cell? p = w.cell? p) : Row w' b off vs := by
  intro j u hu
  have := h j u hu
  rw [hk _ (World.block_lt_of_cell? w _ this)]
  exact this
theorem Sl.keep (h : Sl w v vs) (hk : ∀ p : Addr, p.block < w.heap.size → w'.cell? p = w.cell? p) : Sl w' v vs := by
  obtain ⟨A, n, cap, h1, h2, h3, h4, h5⟩ := h
  exact ⟨A, n, cap, h1, h2, h3, h4, fun hn => let ⟨b, off, ha, hr⟩ := h5 hn; ⟨b, off, ha, hr.keep hk⟩⟩
theorem Sl.below (h : Sl w v vs) (hb : Below w.heap.size w w') : Sl w' v vs := h.keep fun _ hp => hb.cell hp
theorem IntsAt.below {xs : List Int} (h : IntsAt w v xs) (hb : Below w.heap.size w w') : IntsAt w' v xs := ⟨h.1.below hb, h.2⟩
theorem Sl.drewN (h : Sl w v vs) (k : Nat) : Sl (w.drewN k) v vs := h
theorem IntsAt.drewN {xs : List Int} (h : IntsAt w v xs) (k : Nat) : IntsAt (w.drewN k) v xs := h
theorem IntsAt.open_ {xs : List Int} (h : IntsAt w v xs) : ∃ A cap, v = .slice A xs.length cap ∧ xs.length ≤ cap ∧ cap ≤ 9223372036854775807 ∧
    (0 < xs.length → ∃ b off, A = some ⟨b, off, none⟩ ∧ ∀ k, k < xs.length → w.cell? ⟨b, off + k, none⟩ = some (.int .i64 (xs.getD k 0))) := by
  obtain ⟨⟨A, n, cap, h1, h2, h3, h4, h5⟩, hf⟩ := h
  have hl : n = xs.length := by simpa [ints] using h2
  subst hl
  refine ⟨A, cap, h1, h3, by simpa [maxLen] using h4, fun hn => ?_⟩
  obtain ⟨b, off, ha, hr⟩ := h5 hn
  refine ⟨b, off, ha, fun k hk => hr k _ ?_⟩
  simp [ints, List.getElem?_map, List.getD_eq_getElem?_getD, List.getElem?_eq_getElem hk]
theorem Fits.at_ {xs : List Int} (h : Fits xs) (k : Nat) : -9223372036854775808 ≤ xs.getD k 0 ∧ xs.getD k 0 ≤ 9223372036854775807 := by
  rw [List.getD_eq_getElem?_getD]
  rcases Nat.lt_or_ge k xs.length with hk | hk
  · rw [List.getElem?_eq_getElem hk]; exact h _ (List.getElem_mem hk)
  · rw [List.getElem?_eq_none hk]; simp
end
/-- A slice whose elements (one cell each) read, by R, as the list xs. -/
def LAt {α : Type} (R : World → Value → α → Prop) (d : α) (w : World) (v : Value) (xs : List α) : Prop :=
  ∃ vs, Sl w v vs ∧ vs.length = xs.length ∧ ∀ i, i < xs.length → ∃ u, vs[i]? = some u ∧ R w u (xs.getD i d)
def Kept {α : Type} (R : World → Value → α → Prop) : Prop := ∀ w w' v x, (∀ k, k < w.heap.size → w'.heap[k]? = w.heap[k]?) → R w v x → R w' v x
theorem cell_blocks {w w' : World} (h : ∀ k, k < w.heap.size → w'.heap[k]? = w.heap[k]?) (p : Addr) (hp : p.block < w.heap.size) : w'.cell? p = w.cell? p := World.cell?_of_block (h p.block hp)
theorem kept_ints : Kept IntsAt := fun _ _ _ _ hk h => ⟨h.1.keep (cell_blocks hk), h.2⟩
theorem kept_L {α : Type} {R : World → Value → α → Prop} {d : α} (hR : Kept R) : Kept (LAt R d) := fun _w _w' _v _xs hk ⟨vs, h1, h2, h3⟩ =>
  ⟨vs, h1.keep (cell_blocks hk), h2, fun i hi => let ⟨u, hu, hr⟩ := h3 i hi; ⟨u, hu, hR _ _ _ _ hk hr⟩⟩
abbrev Tab := LAt IntsAt []
abbrev Tab3 := LAt Tab []
theorem kept_tab : Kept Tab := kept_L kept_ints
theorem kept_tab3 : Kept Tab3 := kept_L kept_tab
theorem Kept.below {α : Type} {R : World → Value → α → Prop} (hR : Kept R) {w w' : World} {v : Value} {x : α} (h : R w v x) (hb : Below w.heap.size w w') : R w' v x := hR _ _ _ _ hb.block h
/-- The slice opened: an address where there is an element. -/
theorem LAt.open_ {α : Type} {R : World → Value → α → Prop} {d : α} {w : World} {v : Value} {xs : List α} (h : LAt R d w v xs) : ∃ A cap, v = .slice A xs.length cap ∧ xs.length ≤ cap ∧ cap ≤ 9223372036854775807 ∧
    (0 < xs.length → ∃ b off, A = some ⟨b, off, none⟩ ∧ ∀ k, k < xs.length → ∃ u, w.cell? ⟨b, off + k, none⟩ = some u ∧ R w u (xs.getD k d)) := by
  obtain ⟨vs, ⟨A, n, cap, h1, h2, h3, h4, h5⟩, hl, he⟩ := h
  have hn : n = xs.length := h2.trans hl
  subst hn
  refine ⟨A, cap, h1, h3, by simpa [maxLen] using h4, fun hn => ?_⟩
  obtain ⟨b, off, ha, hr⟩ := h5 hn
  refine ⟨b, off, ha, fun k hk => ?_⟩
  obtain ⟨u, hu, hru⟩ := he k hk
  exact ⟨u, hr k u hu, hru⟩
theorem quiet_add_left {P : Program} {f : FuncId} {args : Array Value} {w : World} {a n : Nat} {v : Value}
    (h : Calls P f args (w.drewN (a + n)) fun e w' => e = .returned v ∧ w.drewN (a + n) = w') :
    Calls P f args (w.drewN (a + n)) fun e w'' => e = .returned v ∧ ∃ m, w'' = w.drewN (a + m) :=
  h.mono fun _ _ ⟨he, hm⟩ => ⟨he, n, hm.symm⟩
theorem ret_bool {a b : Bool} (h : a = b) : Ending.returned (.bool a) = Ending.returned (.bool b) := by rw [h]
theorem ret_int {k : IntKind} {a b : Int} (h : a = b) : Ending.returned (.int k a) = Ending.returned (.int k b) := by rw [h]
theorem ret_pair {k l : IntKind} {a b c d : Int} (h : a = c) (h' : b = d) : Ending.returned (.tuple #[.int k a, .int l b]) = Ending.returned (.tuple #[.int k c, .int l d]) := by rw [h, h']
end Go.Proofs
namespace Go.Proofs.Pc
structure PcD where
  orders : List Int
  powers : List (List Int)
  conj : List (List (List Int))
def PcD.n (P : PcD) : Nat := P.orders.length
def PcD.ord (P : PcD) (i : Nat) : Int := P.orders.getD i 0
def PcD.pow (P : PcD) (i : Nat) : List Int := P.powers.getD i []
def PcD.cj (P : PcD) (j i : Nat) : List Int := (P.conj.getD j []).getD i []
def iter {α : Type} (f : α → α) : Nat → α → α
  | 0, x => x
  | n + 1, x => f (iter f n x)
def foldTo {α : Type} (f : Nat → α → α) : Nat → α → α
  | 0, x => x
  | k + 1, x => f k (foldTo f k x)
abbrev V := List Int
def byF (T : Nat → V → V) (n : Nat) (y x : V) : V := foldTo (fun k x => iter (T k) (y.getD k 0).toNat x) n x
def bump (x : V) (i : Nat) : V := ((List.range x.length).map fun k => if k ≤ i then x.getD k 0 else 0).set i (x.getD i 0 + 1)
def timesF (P : PcD) : Nat → Nat → V → V
  | 0, _, x => x
  | d + 1, i, x =>
    foldTo (fun t x' => iter (byF (timesF P d) P.n (P.cj (i + 1 + t) i)) (x.getD (i + 1 + t) 0).toNat x') (P.n - (i + 1))
      (if x.getD i 0 + 1 = P.ord i then byF (timesF P d) P.n (P.pow i) ((bump x i).set i 0) else bump x i)
/-- normal above 'a' -/
def Norm (P : PcD) (y : V) (a : Nat) : Prop := y.length = P.n ∧ ∀ k, k < P.n → 0 ≤ y.getD k 0 ∧ y.getD k 0 < P.ord k ∧ (k < a → y.getD k 0 = 0)
structure Valid (P : PcD) : Prop where
  n12 : P.n ≤ 12
  ord2 : ∀ k, k < P.n → 2 ≤ P.ord k ∧ P.ord k ≤ 1000
  npow : P.powers.length = P.n
  ncj : P.conj.length = P.n
  pow : ∀ i, i < P.n → Norm P (P.pow i) (i + 1)
  cjl : ∀ j, j < P.n → (P.conj.getD j []).length = j
  cj : ∀ j, j < P.n → ∀ i, i < j → Norm P (P.cj j i) (i + 1)
theorem iter_inv {α : Type} {f : α → α} {p : α → Prop} (hf : ∀ x, p x → p (f x)) : ∀ (n : Nat) (x : α), p x → p (iter f n x)
  | 0, _, h => h
  | n + 1, x, h => hf _ (iter_inv hf n x h)
theorem foldTo_inv {α : Type} {f : Nat → α → α} {p : α → Prop} : ∀ (n : Nat) (_ : ∀ k x, k < n → p x → p (f k x)) (x : α), p x → p (foldTo f n x)
  | 0, _, _, h => h
  | n + 1, hf, x, h => hf n _ (Nat.lt_succ_self n) (foldTo_inv n (fun k x hk => hf k x (Nat.lt_succ_of_lt hk)) x h)
theorem byF_inv {T : Nat → V → V} {p : V → Prop} {n : Nat} {y : V} (hT : ∀ k x, k < n → 0 < y.getD k 0 → p x → p (T k x)) (x : V) (h : p x) : p (byF T n y x) := by
  refine foldTo_inv n (fun k x hk hx => ?_) x h
  rcases Int.lt_or_le 0 (y.getD k 0) with h0 | h0
  · exact iter_inv (fun x hx => hT k x hk h0 hx) _ _ hx
  · have : (y.getD k 0).toNat = 0 := by omega
    rw [this]; exact hx
def NV (P : PcD) (x : V) : Prop := x.length = P.n ∧ ∀ k, k < P.n → 0 ≤ x.getD k 0 ∧ x.getD k 0 < P.ord k
theorem getD_set (x : V) (i k : Nat) (v : Int) : (x.set i v).getD k 0 = if i = k ∧ i < x.length then v else x.getD k 0 := by
  simp only [List.getD_eq_getElem?_getD, List.getElem?_set]
  by_cases h : i = k
  · subst h
    by_cases h2 : i < x.length
    · simp [h2]
    · simp [h2]
  · simp [h]
theorem length_bump (x : V) (i : Nat) : (bump x i).length = x.length := by simp [bump]
theorem getD_bump (x : V) (i k : Nat) (hi : i < x.length) : (bump x i).getD k 0 = if k = i then x.getD i 0 + 1 else if k < i then x.getD k 0 else 0 := by
  unfold bump
  rw [getD_set]
  by_cases h : i = k
  · subst h; simp [hi]
  · simp only [h, false_and, if_false, Ne.symm h]
    simp only [List.getD_eq_getElem?_getD, List.getElem?_map]
    rcases Nat.lt_or_ge k x.length with hk | hk
    · simp [List.getElem?_range hk]
      by_cases h2 : k ≤ i
      · have : k < i := by omega
        simp [h2, this]
      · have : ¬ k < i := by omega
        simp [h2, this]
    · have : ¬ k < i := by omega
      simp [this]
      rw [List.getElem?_eq_none (by simpa using hk)]
      rfl
theorem timesF_NV {P : PcD} (hv : Valid P) : ∀ (d i : Nat) (x : V), i < P.n → NV P x → NV P (timesF P d i x) := by
  intro d
  induction d with
  | zero => intro i x _ h; exact h
  | succ d ih =>
    intro i x hi h
    unfold timesF
    have hby : ∀ (y x : V), NV P x → NV P (byF (timesF P d) P.n y x) := fun y x hx => byF_inv (fun k x hk _ hx => ih k x hk hx) x hx
    have hxi := h.2 i hi
    have hlen := h.1
    refine foldTo_inv _ (fun t x' _ hx' => iter_inv (fun z hz => hby _ z hz) _ _ hx') _ ?_
    split
    · refine hby _ _ ⟨by simp [length_bump, h.1], fun k hk => ?_⟩
      have ho := hv.ord2 k hk
      have hxk := h.2 k hk
      rw [getD_set, getD_bump x i k (by omega)]
      by_cases hik : i = k
      · subst hik; simp [length_bump, hlen, hi]; omega
      · simp only [hik, false_and, if_false, Ne.symm hik]
        split <;> omega
    · rename_i hne
      refine ⟨by simp [length_bump, h.1], fun k hk => ?_⟩
      have ho := hv.ord2 k hk
      have hxk := h.2 k hk
      rw [getD_bump x i k (by omega)]
      split
      · rename_i e; subst e; omega
      · split <;> omega
theorem byF_NV {P : PcD} (hv : Valid P) (d : Nat) (y x : V) (h : NV P x) : NV P (byF (timesF P d) P.n y x) :=
  byF_inv (fun k x hk _ hx => timesF_NV hv d k x hk hx) x h
end Go.Proofs.Pc
namespace Go.Proofs
open Go.RowKit Go.Proofs.Pc
def vec (xs : List Int) : List Value := (List.range 12).map fun k => Value.int .i64 (xs.getD k 0)
theorem length_vec (xs : List Int) : (vec xs).length = 12 := by simp [vec]
theorem getElem?_vec (xs : List Int) {k : Nat} (hk : k < 12) : (vec xs)[k]? = some (.int .i64 (xs.getD k 0)) := by
  simp [vec, List.getElem?_map, List.getElem?_range hk]
theorem vec_set (xs : List Int) {i : Nat} (hi : i < xs.length) (v : Int) : (vec xs).set i (.int .i64 v) = vec (xs.set i v) := by
  apply List.ext_getElem?
  intro k
  rw [List.getElem?_set]
  rcases Nat.lt_or_ge k 12 with hk | hk
  · rw [getElem?_vec _ hk, getElem?_vec _ hk, getD_set]
    by_cases h : i = k
    · subst h; simp [hi, length_vec, hk]
    · simp [h]
  · rw [List.getElem?_eq_none (by rw [length_vec]; exact hk), List.getElem?_eq_none (by rw [length_vec]; exact hk)]
    by_cases h : i = k
    · subst h; simp [length_vec]; omega
    · simp [h]
structure RulesAt (w : World) (br : Nat) (P : PcD) : Prop where
  n : w.cell? ⟨br, 0, none⟩ = some (.int .i64 P.n)
  ord : w.rangeAt br 1 (vec P.orders)
  pow : ∀ i, i < 12 → w.rangeAt br (13 + i * 12) (vec (P.pow i))
  cj : ∀ j, j < 12 → ∀ i, i < 12 → w.rangeAt br (157 + j * 144 + i * 12) (vec (P.cj j i))
def CollAt (w : World) (bc br : Nat) (x : List Int) : Prop := w.heap[bc]? = some (.cells (Value.pointer (some ⟨br, 0, none⟩) :: vec x).toArray 117 (0, 0))
section
variable {w w' : World} {bc br : Nat} {x : List Int} {P : PcD}
theorem rangeAt_keep {b o : Nat} {cs : List Value} (h : w.rangeAt b o cs) (hk : w'.heap[b]? = w.heap[b]?) : w'.rangeAt b o cs := fun j v hv => by
  rw [World.cell?_of_block (a := ⟨b, o + j, none⟩) hk]; exact h j v hv
theorem RulesAt.lt (h : RulesAt w br P) : br < w.heap.size := World.block_lt_of_cell? w _ h.n
theorem RulesAt.block (h : RulesAt w br P) (hk : w'.heap[br]? = w.heap[br]?) : RulesAt w' br P :=
  ⟨(World.cell?_of_block (a := ⟨br, 0, none⟩) hk).trans h.n, rangeAt_keep h.ord hk, fun i hi => rangeAt_keep (h.pow i hi) hk, fun j hj i hi => rangeAt_keep (h.cj j hj i hi) hk⟩
theorem RulesAt.grown {row : Option Nat} (h : RulesAt w br P) (hg : w.grownBy w' row) (hne : some br ≠ row) : RulesAt w' br P := h.block (hg.block br h.lt hne)
theorem RulesAt.below (h : RulesAt w br P) (hb : Below w.heap.size w w') : RulesAt w' br P := h.block (hb.block br h.lt)
theorem RulesAt.ordc (h : RulesAt w br P) {i : Nat} (hi : i < 12) : w.cell? ⟨br, 1 + i, none⟩ = some (.int .i64 (P.ord i)) := h.ord i _ (getElem?_vec _ hi)
theorem CollAt.lt (h : CollAt w bc br x) : bc < w.heap.size := (Array.getElem?_eq_some_iff.1 h).1
theorem CollAt.ptr (h : CollAt w bc br x) : w.cell? ⟨bc, 0, none⟩ = some (.pointer (some ⟨br, 0, none⟩)) := by
  rw [cell_of_row w bc 0 _ _ _ h]; rfl
theorem CollAt.range (h : CollAt w bc br x) : w.rangeAt bc 1 (vec x) := fun j v hv => by
  rw [cell_of_row w bc (1 + j) _ _ _ h]
  simp [Nat.add_comm 1 j, hv]
theorem CollAt.cell (h : CollAt w bc br x) {k : Nat} (hk : k < 12) : w.cell? ⟨bc, 1 + k, none⟩ = some (.int .i64 (x.getD k 0)) := h.range k _ (getElem?_vec _ hk)
theorem CollAt.frozen (h : CollAt w bc br x) (k : Nat) : w.frozen? ⟨bc, k, none⟩ = false := frozen_of_row w bc k _ _ h
theorem CollAt.there (h : CollAt w bc br x) : w.there bc 1 12 := fun j hj => ⟨by rw [h.cell hj]; rfl, h.frozen _⟩
theorem CollAt.block (h : CollAt w bc br x) (hk : w'.heap[bc]? = w.heap[bc]?) : CollAt w' bc br x := hk.trans h
theorem CollAt.grown {row : Option Nat} (h : CollAt w bc br x) (hg : w.grownBy w' row) (hne : some bc ≠ row) : CollAt w' bc br x := h.block (hg.block bc h.lt hne)
theorem CollAt.below (h : CollAt w bc br x) (hb : Below w.heap.size w w') : CollAt w' bc br x := h.block (hb.block bc h.lt)
theorem CollAt.set {i : Nat} (h : CollAt w bc br x) (hi : i < x.length) (v : Int) : CollAt (w.setCell ⟨bc, 1 + i, none⟩ (.int .i64 v)) bc br (x.set i v) := by
  unfold CollAt
  rw [← vec_set x hi]
  have h' : w.heap[bc]? = some (.cells (Value.pointer (some ⟨br, 0, none⟩) :: vec x).toArray 117 (0, 0)) := h
  simp [World.setCell, Array.getElem?_modify, h', Nat.add_comm 1 i]
end
theorem only_drewN {a w : World} {row : Option Nat} (h : a.grownBy w row) (n : Nat) : a.grownBy (w.drewN n) row := ⟨h.os, h.tape, h.output, h.size, h.block⟩
theorem only_drew {a w : World} {row : Option Nat} (h : a.grownBy w row) : a.grownBy w.drew row := ⟨h.os, h.tape, h.output, h.size, h.block⟩
theorem only_setCell {a w : World} {g : Nat} (h : a.grownBy w (some g)) {p : Addr} (hp : p.block = g ∨ a.heap.size ≤ p.block) (u : Value) : a.grownBy (w.setCell p u) (some g) :=
  ⟨h.os, h.tape, h.output, by simpa [World.setCell] using h.size, fun i hi hne => (Below.heap_setCell w p u i (by
    rintro rfl
    rcases hp with hp | hp
    · exact hne (by rw [hp])
    · omega)).trans (h.block i hi hne)⟩
theorem only_of_below {a w : World} (h : Below a.heap.size a w) (row : Option Nat) : a.grownBy w row := ⟨h.os, h.tape, h.output, h.size, fun i hi _ => h.block i hi⟩
theorem only_trans {a b c : World} {row : Option Nat} (h : a.grownBy b row) (k : b.grownBy c row) : a.grownBy c row :=
  ⟨k.os.trans h.os, k.tape.trans h.tape, k.output.trans h.output, Nat.le_trans h.size k.size, fun i hi hne => (k.block i (Nat.lt_of_lt_of_le hi h.size) hne).trans (h.block i hi hne)⟩
theorem oneCell_vec (xs : List Int) : (vec xs).toArray.all (·.oneCell') = true := all_oneCell_toArray (by intro v hv; simp [vec] at hv; obtain ⟨k, _, rfl⟩ := hv; rfl)
theorem size_vec (xs : List Int) : (vec xs).toArray.size = 12 := by simp [length_vec]
theorem info82 : (Try.prog.info? 87).map (·.size) = some 12 := by kernel_rfl
/-- A whole vector is stored into the block that was just made. -/
theorem store_vec_new (w : World) (x : List Int) : Sem.run Try.prog (storeCells ⟨w.heap.size, 0, none⟩ (vec x)) (w.alloc (.cells #[.int .i64 0, .int .i64 0, .int .i64 0, .int .i64 0, .int .i64 0, .int .i64 0, .int .i64 0, .int .i64 0, .int .i64 0, .int .i64 0, .int .i64 0, .int .i64 0] 87)) =
    .ok () (w.alloc (.cells (vec x).toArray 87)) :=
  run_storeCells_new (P := Try.prog) w 87 _ (vec x).toArray (by rw [size_vec]; exact info82) (by rw [size_vec]; rfl) (oneCell_vec x)
/-- What a call of times, by does: the collector's vector becomes y. -/
def Turned (w : World) (bc br : Nat) (y : List Int) (e : Ending) (w' : World) : Prop := e = .returned (.tuple #[]) ∧ CollAt w' bc br y ∧ w.grownBy w' (some bc)
def TimesOk (P : PcD) (d : Nat) : Prop := ∀ (w : World) (bc br : Nat) (x : List Int) (i : Nat), CollAt w bc br x → RulesAt w br P → bc ≠ br → NV P x → i < P.n → P.n ≤ i + d →
    Calls Try.prog 81 #[.pointer (some ⟨bc, 0, none⟩), .int .i64 i] w (Turned w bc br (timesF P d i x))
def ByOk (P : PcD) (d : Nat) : Prop := ∀ (w : World) (bc br : Nat) (x y : List Int), CollAt w bc br x → RulesAt w br P → bc ≠ br → NV P x → (∀ k, k < P.n → 0 ≤ y.getD k 0 ∧ y.getD k 0 ≤ 1000 ∧ (0 < y.getD k 0 → P.n ≤ k + d)) →
    Calls Try.prog 82 #[.pointer (some ⟨bc, 0, none⟩), .agg (vec y).toArray] w (Turned w bc br (byF (timesF P d) P.n y x))
end Go.Proofs
namespace Go.Proofs
open Go.RowKit Go.Proofs.Pc
set_option maxHeartbeats 400000 in
theorem by_of_times {P : PcD} (hv : Valid P) {d : Nat} (HT : TimesOk P d) : ByOk P d := by
  intro w bc br x y hc hr hne hx hy
  have hn12 := hv.n12
  have HT' := Lib.hid HT
  have HY := Lib.hid hy
  clear HT hy
  have hcp := hc.ptr
  have hrn := hr.n
  have hbc := hc.lt
  have hbr := hr.lt
  have HC := Lib.hid hc
  have HR := Lib.hid hr
  clear hc hr
  go_enter Try.func82, Try.ntmps82
  go_wp2_with fail
  go_loopw [4, 12] (fun s4 i wr => ∃ k : Nat, k ≤ P.n ∧ i = .int .i64 k ∧ CollAt wr bc br (foldTo (fun k x => iter (timesF P d k) (y.getD k 0).toNat x) k x) ∧ (w.alloc (.cells (vec y).toArray 87)).grownBy wr (some bc)) (fun _ i _ => P.n - (intOf i).toNat)
  case atStart => exact ⟨0, Nat.zero_le _, rfl, HC.out.below ((Below.refl _ _).alloc (Nat.le_refl _) _), World.grownBy.refl _ _⟩
  case round =>
    obtain ⟨k, hk, rfl, hcr, hgr⟩ := hrel
    have hgw : w.grownBy wr (some bc) := only_trans (World.grownBy_alloc w _ _) hgr
    have hrr := HR.out.grown hgw (by simp; omega)
    have hcx : CollAt wr bc br (foldTo (fun k x => iter (timesF P d k) (y.getD k 0).toNat x) k x) := hcr
    by_cases hlt : k < P.n
    · have hyk := HY.out k hlt
      have hcy : wr.cell? ⟨w.heap.size, k, none⟩ = some (.int .i64 (y.getD k 0)) := by
        rw [World.cell?_of_block (w := w.alloc (.cells (vec y).toArray 87)) (hgr.block w.heap.size (by simp) (by simp; omega)), cell_of_row _ _ _ _ _ _ (heap_alloc_new w _)]
        simpa using getElem?_vec y (k := k) (by omega)
      have hnx : NV P (foldTo (fun k x => iter (timesF P d k) (y.getD k 0).toNat x) k x) := foldTo_inv k (fun j z hj hz => iter_inv (fun z hz => timesF_NV hv d j z (by omega) hz) _ _ hz) x hx
      generalize hm : y.getD k 0 = m at *
      obtain ⟨m', rfl⟩ := Int.eq_ofNat_of_zero_le hyk.1
      have HM := Lib.hid hm
      have hd : m' ≠ 0 → P.n ≤ k + d := fun h => hyk.2.2 (by omega)
      have hm1 : m' ≤ 1000 := by omega
      generalize hxk : foldTo (fun k x => iter (timesF P d k) (y.getD k 0).toNat x) k x = xk at *
      have HK := Lib.hid hxk
      clear hcr hm hyk hxk
      have HX := Lib.hid hnx
      clear hnx
      go_wp2_with fail
      obtain ⟨wo, rfl⟩ : ∃ wo, wo = wr := ⟨_, rfl⟩
      go_loopw [18] (fun i wr => ∃ j : Nat, j ≤ m' ∧ i = .int .i64 j ∧ CollAt wr bc br (iter (timesF P d k) j xk) ∧ wo.grownBy wr (some bc)) (fun i _ => m' - (intOf i).toNat)
      case atStart => exact ⟨0, Nat.zero_le _, rfl, hcx, World.grownBy.refl _ _⟩
      case round =>
        obtain ⟨j, hj, rfl, hcj, hgj⟩ := hrel
        have hnj := iter_inv (p := NV P) (f := timesF P d k) (fun z hz => timesF_NV hv d k z hlt hz) j xk HX.out
        have HN := Lib.hid hnj
        clear hnj
        by_cases hjl : j < m'
        · go_wp2_with (go_at_call 81; refine (HT'.out _ bc br (iter (timesF P d k) j xk) k hcj (hrr.grown hgj (by simp; omega)) hne HN.out hlt (hd (by omega))).mono ?_; rintro e w2 ⟨rfl, hc2, hg2⟩)
          go_roundw
          case rel => exact ⟨j + 1, by omega, by go_num, hc2, only_trans hgj hg2⟩
          case measure => simp [intOf]; omega
        · have hjm : j = m' := by omega
          subst hjm
          go_wp2_with fail
          go_roundw
          case rel => exact ⟨k + 1, by omega, by go_num, by (show CollAt _ _ _ (iter (timesF P d k) (y.getD k 0).toNat (foldTo (fun k x => iter (timesF P d k) (y.getD k 0).toNat x) k x)); rw [HM.out, HK.out]; exact hcj), only_trans hgr hgj⟩
          case measure => simp [intOf]; omega
    · have hkn : k = P.n := by omega
      subst hkn
      go_wp2_with fail
      go_end0
      exact ⟨rfl, hcx, hgw⟩
end Go.Proofs
namespace Go.Proofs
open Go.RowKit Go.Proofs.Pc
theorem vec_congr {x y : List Int} (h : ∀ k, k < 12 → x.getD k 0 = y.getD k 0) : vec x = vec y := by
  unfold vec
  exact List.map_congr_left fun k hk => by rw [h k (by simpa using hk)]
theorem CollAt.setv {w : World} {bc br : Nat} {x y : List Int} {i : Nat} {v : Int} (h : CollAt w bc br x) (hi : i < 12) (hy : ∀ k, k < 12 → y.getD k 0 = if k = i then v else x.getD k 0) : CollAt (w.setCell ⟨bc, 1 + i, none⟩ (.int .i64 v)) bc br y := by
  have h' : w.heap[bc]? = some (.cells (Value.pointer (some ⟨br, 0, none⟩) :: vec x).toArray 117 (0, 0)) := h
  have hv : (vec x).set i (.int .i64 v) = vec y := by
    apply List.ext_getElem?
    intro k
    rw [List.getElem?_set]
    rcases Nat.lt_or_ge k 12 with hk | hk
    · rw [getElem?_vec _ hk, getElem?_vec _ hk, hy k hk]
      by_cases e : i = k
      · subst e; simp [length_vec, hk]
      · simp [e, Ne.symm e]
    · rw [List.getElem?_eq_none (by rw [length_vec]; exact hk), List.getElem?_eq_none (by rw [length_vec]; exact hk)]
      have : i ≠ k := by omega
      simp [this]
  unfold CollAt
  rw [← hv]
  simp [World.setCell, Array.getElem?_modify, h', Nat.add_comm 1 i]
theorem CollAt.zeros {bc br : Nat} : ∀ (m o : Nat) (w : World) (x y : List Int), CollAt w bc br x → o + m ≤ 12 → (∀ k, k < 12 → y.getD k 0 = if o ≤ k ∧ k < o + m then 0 else x.getD k 0) →
    CollAt (w.setCells bc (1 + o) (List.replicate m (.int .i64 0))) bc br y
  | 0, o, w, x, y, h, _, hy => by
    have : vec y = vec x := vec_congr fun k hk => by rw [hy k hk, if_neg (by omega)]
    unfold CollAt at h ⊢
    rw [this]
    exact h
  | m + 1, o, w, x, y, h, ho, hy => by
    rw [List.replicate_succ, World.setCells]
    refine CollAt.zeros m (o + 1) _ ((List.range 12).map fun k => if k = o then 0 else x.getD k 0) y (h.setv (by omega) fun k hk => ?_) (by omega) fun k hk => ?_
    · simp [List.getD_eq_getElem?_getD, List.getElem?_range hk]
    · rw [hy k hk]
      have : ((List.range 12).map fun k => if k = o then 0 else x.getD k 0).getD k 0 = if k = o then 0 else x.getD k 0 := by simp [List.getD_eq_getElem?_getD, List.getElem?_range hk]
      rw [this]
      by_cases e : k = o
      · subst e; simp
      · simp only [e, if_false]
        by_cases h2 : o ≤ k ∧ k < o + (m + 1)
        · rw [if_pos h2, if_pos (by omega)]
        · rw [if_neg h2, if_neg (by omega)]
theorem grownBy_setCells (b : Nat) : ∀ (vs : List Value) (o : Nat) (w : World), w.grownBy (w.setCells b o vs) (some b)
  | [], _, w => World.grownBy.refl w _
  | v :: r, o, w => by
    rw [World.setCells]
    exact only_trans (only_setCell (World.grownBy.refl w _) (.inl rfl) v) (grownBy_setCells b r (o + 1) _)
def cleared (x : List Int) (i : Nat) : List Int := (List.range x.length).map fun k => if k ≤ i then x.getD k 0 else 0
theorem getD_cleared (x : List Int) (i k : Nat) : (cleared x i).getD k 0 = if k ≤ i then x.getD k 0 else 0 := by
  unfold cleared
  rcases Nat.lt_or_ge k x.length with hk | hk
  · simp [List.getD_eq_getElem?_getD, List.getElem?_range hk]
  · simp only [List.getD_eq_getElem?_getD]
    rw [List.getElem?_eq_none (by simpa using hk), List.getElem?_eq_none hk]
    simp
theorem run_sliceAt_vec (w : World) (b o k : Nat) (hk : k ≤ 12) : (Instr.sliceAt 87 (.pointer (some ⟨b, o, none⟩)) (some (.int .i64 (k : Int))) none none).run Try.prog w =
    .ok (.slice (some (if 12 = k then ⟨b, o, none⟩ else ⟨b, o + k, none⟩)) (12 - k) (12 - k)) w := by
  have hs : (Try.prog.info? 3).map (·.size) = some 1 := by kernel_rfl
  cases hq : Try.prog.info? 3 with
  | none => simp [hq] at hs
  | some inf =>
    have hsz : inf.size = 1 := by simpa [hq] using hs
    have h1 : (k : Int) ≤ 12 := by omega
    simp [Instr.sliceAt, run_underlying Try.underlying87, Instr.sureAddr, Instr.sliceBounds, Instr.sliceBound, asIntOf, sizeOf, typeInfo, hq, hsz, hk]
    by_cases h : 12 = k
    · simp [h]
    · simp only [h, if_false]
      rw [Addr.add_mid]
theorem zero3 (w : World) : (zeroValue 3).run Try.prog w = .ok (.int .i64 0) w := by kernel_rfl
/-- 'clear(c.x[i+1:])' -/
theorem slice_clear {w : World} {bc br : Nat} {x : List Int} {i : Nat} (hc : CollAt w bc br x) (hi : i < 12) :
    ∃ sv w2, (∀ w', (Instr.sliceAt 87 (.pointer (some ⟨bc, 1, none⟩)) (some (.int .i64 ((i : Int) + 1))) none none).run Try.prog w' = .ok sv w') ∧
      (∀ ty, (Builtin.clear_ #[22] ty #[sv]).run Try.prog w = .ok (.tuple #[]) w2) ∧ CollAt w2 bc br (cleared x i) ∧ w.grownBy w2 (some bc) := by
  refine ⟨.slice (some (if 12 = i + 1 then ⟨bc, 1, none⟩ else ⟨bc, 1 + (i + 1), none⟩)) (12 - (i + 1)) (12 - (i + 1)), w.setCells bc (1 + (i + 1)) (List.replicate (12 - (i + 1)) (.int .i64 0)), fun w' => ?_, fun ty => ?_, ?_, grownBy_setCells _ _ _ _⟩
  · exact run_sliceAt_vec w' bc 1 (i + 1) (by omega)
  · by_cases h : 12 = i + 1
    · have h0 : 12 - (i + 1) = 0 := by omega
      rw [if_pos h, h0]
      simp [Builtin.clear_, run_underlying Try.underlying22, World.setCells]
    · rw [if_neg h]
      exact Lib.run_clear_slice w 22 3 ty (.int .i64 0) Try.underlying22 zero3 rfl rfl bc (1 + (i + 1)) _ _ (by omega) (fun j hj => by rw [show 1 + (i + 1) + j = 1 + (i + 1 + j) by omega, hc.cell (by omega)]; rfl) (fun j hj => hc.frozen _)
  · refine CollAt.zeros _ _ _ x _ hc (by omega) fun k hk => ?_
    rw [getD_cleared]
    by_cases h : k ≤ i
    · rw [if_pos h, if_neg (by omega)]
    · rw [if_neg h, if_pos (by omega)]
end Go.Proofs
namespace Go.Proofs
open Go.RowKit Go.Proofs.Pc
def start (P : PcD) (d i : Nat) (x : List Int) : List Int := if x.getD i 0 + 1 = P.ord i then byF (timesF P d) P.n (P.pow i) ((bump x i).set i 0) else bump x i
theorem rules_step {w : World} {bc br : Nat} {P : PcD} (h : RulesAt w br P) (hne : bc ≠ br) (n k : Nat) (v : Value) : RulesAt ((w.drewN n).setCell ⟨bc, k, none⟩ v) br P :=
  h.grown (only_setCell (only_drewN (World.grownBy.refl w _) n) (.inl rfl) v) (by simp; omega)
theorem norm_pow {P : PcD} (hv : Valid P) {y : List Int} {i d : Nat} (hy : Norm P y (i + 1)) (hd : P.n ≤ i + (d + 1)) : ∀ k, k < P.n → 0 ≤ y.getD k 0 ∧ y.getD k 0 ≤ 1000 ∧ (0 < y.getD k 0 → P.n ≤ k + d) := by
  intro k hk
  have h1 := hy.2 k hk
  have h2 := hv.ord2 k hk
  refine ⟨by omega, by omega, fun h => ?_⟩
  rcases Nat.lt_or_ge k (i + 1) with h3 | h3
  · have := h1.2.2 h3; omega
  · omega
set_option maxRecDepth 100000 in
set_option maxHeartbeats 400000 in
theorem times_of_by {P : PcD} (hv : Valid P) {d : Nat} (HB : ByOk P d) : TimesOk P (d + 1) := by
  intro w bc br x i hc hr hne hx hi hd
  have hn12 := hv.n12
  have HB' := Lib.hid HB
  clear HB
  have hcp := hc.ptr
  have hrn := hr.n
  have hbc := hc.lt
  have hbr := hr.lt
  have hlen := hx.1
  have hxi := hx.2 i hi
  have hoi := hv.ord2 i hi
  have hri := hr.ordc (i := i) (by omega)
  have hst := @store_vec_new
  obtain ⟨sv, w2, hsl, hcl, hc2, hg2⟩ := slice_clear (w := w.alloc (.cells (vec x).toArray 87)) (i := i) (hc.below ((Below.refl _ _).alloc (Nat.le_refl _) _)) (by omega)
  have hg2' : w.grownBy w2 (some bc) := only_trans (World.grownBy_alloc w _ _) hg2
  have hr2 := hr.grown hg2' (by simp; omega)
  have hR2 : w2.heap[w.heap.size]? = some (.cells (vec x).toArray 87 (0, 0)) := (hg2.block w.heap.size (by simp) (by simp; omega)).trans (heap_alloc_new w _)
  have hci2 := hc2.cell (k := i) (by omega)
  have hcp2 := hc2.ptr
  have hfz2 := hc2.frozen (1 + i)
  have hri2 := hr2.ordc (i := i) (by omega)
  rw [getD_cleared, if_pos (Nat.le_refl i)] at hci2
  have hi0 : (0 : Int) ≤ (i : Int) := Int.natCast_nonneg _
  have hi1 : (i : Int) < 12 := by omega
  have hbump : CollAt (w2.setCell ⟨bc, 1 + i, none⟩ (.int .i64 (x.getD i 0 + 1))).drew bc br (bump x i) :=
    hc2.setv (by omega) fun k hk => by
      rw [getD_bump x i k (by omega), getD_cleared]
      by_cases e : k = i
      · simp [e]
      · simp only [e, if_false]
        by_cases h : k < i
        · rw [if_pos h, if_pos (by omega)]
        · rw [if_neg h, if_neg (by omega)]
  have hr3 : RulesAt (w2.setCell ⟨bc, 1 + i, none⟩ (.int .i64 (x.getD i 0 + 1))).drew br P := hr2.grown (only_drew (only_setCell (World.grownBy.refl w2 _) (.inl rfl) _)) (by simp; omega)
  have hg3 : w.grownBy (w2.setCell ⟨bc, 1 + i, none⟩ (.int .i64 (x.getD i 0 + 1))).drew (some bc) := only_drew (only_setCell hg2' (.inl rfl) _)
  have hR3 : (w2.setCell ⟨bc, 1 + i, none⟩ (.int .i64 (x.getD i 0 + 1))).drew.heap[w.heap.size]? = some (.cells (vec x).toArray 87 (0, 0)) := (Below.heap_setCell w2 ⟨bc, 1 + i, none⟩ _ w.heap.size (by simp; omega)).trans hR2
  generalize hm : x.getD i 0 = m at *
  generalize ho : P.ord i = o at *
  have HM := Lib.hid hm
  have HO := Lib.hid ho
  have HC := Lib.hid hc
  have HB3 := Lib.hid hbump
  have HR3 := Lib.hid hr3
  have HG3 := Lib.hid hg3
  have HRb3 := Lib.hid hR3
  clear hm ho hbump hr3 hg3 hR3
  have HR := Lib.hid hr
  have HX := Lib.hid hx
  have HC2 := Lib.hid hc2
  have HR2 := Lib.hid hr2
  have HG2 := Lib.hid hg2'
  have HRb := Lib.hid hR2
  have HL := Lib.hid hlen
  clear hc hr hx hc2 hr2 hg2' hg2 hR2 hlen
  go_enter Try.func81, Try.ntmps81
  go_wp2_with (first | (refine wpList_load_mid rfl 87 (.tmp 8) rfl bc 1 rfl (vec x) _ HC.out.range Try.underlying87 rfl (by rw [length_vec]; exact info82) ?_))
  go_region
  generalize (w2.setCell ⟨bc, 1 + i, none⟩ (.int .i64 (m + 1))).drew = w3 at *
  have hcp3 := HB3.out.ptr
  have hri3 := HR3.out.ordc (i := i) (by omega)
  have hrn3 := HR3.out.n
  have hfz3 := HB3.out.frozen (1 + i)
  have hci3 := HB3.out.cell (k := i) (by omega)
  rw [getD_bump x i i (by rw [HL.out]; exact hi), if_pos rfl, HM.out] at hci3
  rw [HO.out] at hri3
  clear hcp hrn hcp2 hfz2 hri2 hci2 hri hsl hcl
  have hxx : start P d i x = (if m + 1 = o then byF (timesF P d) P.n (P.pow i) ((bump x i).set i 0) else bump x i) := by unfold start; rw [HM.out, HO.out]
  have HXX := Lib.hid hxx
  clear hxx
  have hlb : i < (bump x i).length := by rw [length_bump, HL.out]; exact hi
  by_cases hmo : m + 1 = o
  · have d1 : (m + 1 == o) = true := by simpa using hmo
    have HMO := Lib.hid hmo
    have hnb : NV P ((bump x i).set i 0) := by
      refine ⟨by simp [length_bump, HL.out], fun k hk => ?_⟩
      have ho' := hv.ord2 k hk
      have hxk := HX.out.2 k hk
      rw [getD_set, getD_bump x i k (by rw [HL.out]; exact hi)]
      by_cases hik : i = k
      · subst hik; simp [length_bump, HL.out, hi]; omega
      · simp only [hik, false_and, if_false, Ne.symm hik]
        split <;> omega
    have HNB := Lib.hid hnb
    clear hmo hnb
    go_wp2_with fail
    go_quiet (fail)
    go_wp2_with (first
      | (refine wpList_load_mid rfl 87 (.tmp 55) rfl br _ rfl (vec (P.pow i)) _ ((rules_step HR3.out hne _ _ _).pow i (by omega)) Try.underlying87 rfl (by rw [length_vec]; exact info82) ?_)
      | (go_at_call 82; refine (HB'.out _ bc br ((bump x i).set i 0) (P.pow i) (CollAt.set (w := w3.drewN _) HB3.out hlb 0) (rules_step HR3.out hne _ _ _) hne HNB.out (norm_pow hv (hv.pow i hi) hd)).mono ?_; rintro e w4 ⟨rfl, hcl, hg4⟩))
    have hgl : w.grownBy w4 (some bc) := only_trans (only_setCell (only_drewN HG3.out _) (.inl rfl) _) hg4
    have hRl : w4.heap[w.heap.size]? = some (.cells (vec x).toArray 87 (0, 0)) := (hg4.block w.heap.size (by have := HG3.out.size; have := (Array.getElem?_eq_some_iff.1 HRb3.out).1; simpa [World.setCell] using this) (by simp; omega)).trans ((Below.heap_setCell _ ⟨bc, 1 + i, none⟩ _ w.heap.size (by simp; omega)).trans HRb3.out)
    have hxg := HXX.out.trans (if_pos HMO.out)
    have HGL := Lib.hid hgl
    have HRL := Lib.hid hRl
    have HCL := Lib.hid hcl
    have hnl : NV P (byF (timesF P d) P.n (P.pow i) ((bump x i).set i 0)) := byF_NV hv d _ _ HNB.out
    have HNL := Lib.hid hnl
    generalize byF (timesF P d) P.n (P.pow i) ((bump x i).set i 0) = x2 at *
    generalize hwl : w4 = wl at *
    clear hwl hgl hRl hcl hnl hg4 hcp3 hri3 hrn3 hci3 hfz3
    have hgl : w.grownBy wl (some bc) := HGL.out
    have hrl := HR.out.grown hgl (by simp; omega)
    have HRl := Lib.hid hrl
    have hrnl := hrl.n
    have hcpl := HCL.out.ptr
    have HXg := Lib.hid hxg
    clear hgl hrl hxg
    go_wp2_with fail
    go_loopw [5] (fun s5 wr => ∃ j : Nat, i + 1 ≤ j ∧ j ≤ P.n ∧ s5 = .int .i64 j ∧ CollAt wr bc br (foldTo (fun t x' => iter (byF (timesF P d) P.n (P.cj (i + 1 + t) i)) (x.getD (i + 1 + t) 0).toNat x') (j - (i + 1)) x2) ∧ wl.grownBy wr (some bc)) (fun s5 _ => P.n - (intOf s5).toNat)
    case atStart => exact ⟨i + 1, Nat.le_refl _, by omega, by go_num, by simpa [foldTo] using HCL.out, World.grownBy.refl _ _⟩
    case round =>
      obtain ⟨j, hj1, hj2, rfl, hcj, hgj⟩ := hrel
      have hcpj := hcj.ptr
      have hrj := HRl.out.grown hgj (by simp; omega)
      have hrnj := hrj.n
      by_cases hlt : j < P.n
      · have hxj := HX.out.2 j hlt
        have hoj := hv.ord2 j hlt
        have hRj : wr.cell? ⟨w.heap.size, j, none⟩ = some (.int .i64 (x.getD j 0)) := by
          rw [World.cell?_of_block (w := wl) (hgj.block w.heap.size (Array.getElem?_eq_some_iff.1 HRL.out).1 (by simp; omega)), cell_of_row _ _ _ _ _ _ HRL.out]
          simpa using getElem?_vec x (k := j) (by omega)
        have hj0 : (0 : Int) ≤ (j : Int) := Int.natCast_nonneg _
        have hj12 : (j : Int) < 12 := by omega
        have hnj : NV P (foldTo (fun t x' => iter (byF (timesF P d) P.n (P.cj (i + 1 + t) i)) (x.getD (i + 1 + t) 0).toNat x') (j - (i + 1)) x2) :=
          foldTo_inv _ (fun t z _ hz => iter_inv (fun z hz => byF_NV hv d _ z hz) _ _ hz) _ HNL.out
        have hfs : foldTo (fun t x' => iter (byF (timesF P d) P.n (P.cj (i + 1 + t) i)) (x.getD (i + 1 + t) 0).toNat x') (j + 1 - (i + 1)) x2 =
            iter (byF (timesF P d) P.n (P.cj j i)) (x.getD j 0).toNat (foldTo (fun t x' => iter (byF (timesF P d) P.n (P.cj (i + 1 + t) i)) (x.getD (i + 1 + t) 0).toNat x') (j - (i + 1)) x2) := by
          rw [show j + 1 - (i + 1) = (j - (i + 1)) + 1 by omega, foldTo, show i + 1 + (j - (i + 1)) = j by omega]
        generalize hmj : x.getD j 0 = mj at *
        obtain ⟨mj', rfl⟩ := Int.eq_ofNat_of_zero_le hxj.1
        rw [Int.toNat_natCast] at hfs
        have hm1 : mj' ≤ 1000 := by omega
        have HF := Lib.hid hfs
        generalize foldTo (fun t x' => iter (byF (timesF P d) P.n (P.cj (i + 1 + t) i)) (x.getD (i + 1 + t) 0).toNat x') (j - (i + 1)) x2 = xj at *
        have HNJ := Lib.hid hnj
        have HCJ := Lib.hid hcj
        have HRJ := Lib.hid hrj
        clear hmj hfs hnj hcj hrj hxj hoj
        go_wp2_with fail
        obtain ⟨wo, rfl⟩ : ∃ wo, wo = wr := ⟨_, rfl⟩
        go_loopw [74] (fun s wr => ∃ q : Nat, q ≤ mj' ∧ s = .int .i64 q ∧ CollAt wr bc br (iter (byF (timesF P d) P.n (P.cj j i)) q xj) ∧ wo.grownBy wr (some bc)) (fun s _ => mj' - (intOf s).toNat)
        case atStart => exact ⟨0, Nat.zero_le _, rfl, HCJ.out, World.grownBy.refl _ _⟩
        case round =>
          obtain ⟨q, hq, rfl, hcq, hgq⟩ := hrel
          have hcpq := hcq.ptr
          have hrq := HRJ.out.grown hgq (by simp; omega)
          have hnq : NV P (iter (byF (timesF P d) P.n (P.cj j i)) q xj) := iter_inv (fun z hz => byF_NV hv d _ z hz) _ _ HNJ.out
          have HRQ := Lib.hid hrq
          have HCQ := Lib.hid hcq
          have HNQ := Lib.hid hnq
          clear hcpj hrnj hRj hrq hcq hnq
          by_cases hql : q < mj'
          · go_wp2_with (first
              | (refine wpList_load_mid rfl 87 (.tmp 86) rfl br _ rfl (vec (P.cj j i)) _ (HRQ.out.cj j (by omega) i (by omega)) Try.underlying87 rfl (by rw [length_vec]; exact info82) ?_)
              | (go_at_call 82; refine (HB'.out _ bc br _ (P.cj j i) HCQ.out HRQ.out hne HNQ.out (norm_pow hv (hv.cj j hlt i (by omega)) hd)).mono ?_; rintro e w5 ⟨rfl, hc5, hg5⟩))
            go_roundw
            case rel => exact ⟨q + 1, by omega, by go_num, hc5, only_trans hgq hg5⟩
            case measure => simp [intOf]; omega
          · have hqm : q = mj' := by omega
            subst hqm
            go_wp2_with fail
            go_roundw
            case rel => exact ⟨j + 1, by omega, by omega, by go_num, by (rw [HF.out]; exact HCQ.out), only_trans hgj hgq⟩
            case measure => simp [intOf]; omega
      · have hjn : j = P.n := by omega
        subst hjn
        go_wp2_with fail
        go_end0
        refine ⟨rfl, ?_, only_trans HGL.out hgj⟩
        show CollAt _ _ _ (foldTo _ _ (start P d i x))
        rw [HXg.out]
        exact hcj
  · have d1 : (m + 1 == o) = false := by simpa using hmo
    have HMO := Lib.hid hmo
    clear hmo
    have hnl : NV P (bump x i) := by
      refine ⟨by simp [length_bump, HL.out], fun k hk => ?_⟩
      have ho' := hv.ord2 k hk
      have hxk := HX.out.2 k hk
      rw [getD_bump x i k (by rw [HL.out]; exact hi)]
      split
      · rename_i e; subst e; rw [HO.out, HM.out]; have := HMO.out; omega
      · split <;> omega
    have HNL := Lib.hid hnl
    clear hnl
    go_wp2_with fail
    go_quiet (fail)
    obtain ⟨wl, hwl⟩ : ∃ wl, wl = w3.drewN nq := ⟨_, rfl⟩
    have HCL : Hid (CollAt wl bc br (bump x i)) := by rw [hwl]; exact HB3
    have HGL : Hid (w.grownBy wl (some bc)) := by rw [hwl]; exact only_drewN HG3.out _
    have HRL : Hid (wl.heap[w.heap.size]? = some (.cells (vec x).toArray 87 (0, 0))) := by rw [hwl]; exact HRb3
    have hxg := HXX.out.trans (if_neg HMO.out)
    rw [← hwl]
    generalize bump x i = x2 at *
    clear hwl hcp3 hri3 hrn3 hci3 hfz3
    have hgl : w.grownBy wl (some bc) := HGL.out
    have hrl := HR.out.grown hgl (by simp; omega)
    have HRl := Lib.hid hrl
    have hrnl := hrl.n
    have hcpl := HCL.out.ptr
    have HXg := Lib.hid hxg
    clear hgl hrl hxg
    go_wp2_with fail
    go_loopw [5] (fun s5 wr => ∃ j : Nat, i + 1 ≤ j ∧ j ≤ P.n ∧ s5 = .int .i64 j ∧ CollAt wr bc br (foldTo (fun t x' => iter (byF (timesF P d) P.n (P.cj (i + 1 + t) i)) (x.getD (i + 1 + t) 0).toNat x') (j - (i + 1)) x2) ∧ wl.grownBy wr (some bc)) (fun s5 _ => P.n - (intOf s5).toNat)
    case atStart => exact ⟨i + 1, Nat.le_refl _, by omega, by go_num, by simpa [foldTo] using HCL.out, World.grownBy.refl _ _⟩
    case round =>
      obtain ⟨j, hj1, hj2, rfl, hcj, hgj⟩ := hrel
      have hcpj := hcj.ptr
      have hrj := HRl.out.grown hgj (by simp; omega)
      have hrnj := hrj.n
      by_cases hlt : j < P.n
      · have hxj := HX.out.2 j hlt
        have hoj := hv.ord2 j hlt
        have hRj : wr.cell? ⟨w.heap.size, j, none⟩ = some (.int .i64 (x.getD j 0)) := by
          rw [World.cell?_of_block (w := wl) (hgj.block w.heap.size (Array.getElem?_eq_some_iff.1 HRL.out).1 (by simp; omega)), cell_of_row _ _ _ _ _ _ HRL.out]
          simpa using getElem?_vec x (k := j) (by omega)
        have hj0 : (0 : Int) ≤ (j : Int) := Int.natCast_nonneg _
        have hj12 : (j : Int) < 12 := by omega
        have hnj : NV P (foldTo (fun t x' => iter (byF (timesF P d) P.n (P.cj (i + 1 + t) i)) (x.getD (i + 1 + t) 0).toNat x') (j - (i + 1)) x2) :=
          foldTo_inv _ (fun t z _ hz => iter_inv (fun z hz => byF_NV hv d _ z hz) _ _ hz) _ HNL.out
        have hfs : foldTo (fun t x' => iter (byF (timesF P d) P.n (P.cj (i + 1 + t) i)) (x.getD (i + 1 + t) 0).toNat x') (j + 1 - (i + 1)) x2 =
            iter (byF (timesF P d) P.n (P.cj j i)) (x.getD j 0).toNat (foldTo (fun t x' => iter (byF (timesF P d) P.n (P.cj (i + 1 + t) i)) (x.getD (i + 1 + t) 0).toNat x') (j - (i + 1)) x2) := by
          rw [show j + 1 - (i + 1) = (j - (i + 1)) + 1 by omega, foldTo, show i + 1 + (j - (i + 1)) = j by omega]
        generalize hmj : x.getD j 0 = mj at *
        obtain ⟨mj', rfl⟩ := Int.eq_ofNat_of_zero_le hxj.1
        rw [Int.toNat_natCast] at hfs
        have hm1 : mj' ≤ 1000 := by omega
        have HF := Lib.hid hfs
        generalize foldTo (fun t x' => iter (byF (timesF P d) P.n (P.cj (i + 1 + t) i)) (x.getD (i + 1 + t) 0).toNat x') (j - (i + 1)) x2 = xj at *
        have HNJ := Lib.hid hnj
        have HCJ := Lib.hid hcj
        have HRJ := Lib.hid hrj
        clear hmj hfs hnj hcj hrj hxj hoj
        go_wp2_with fail
        obtain ⟨wo, rfl⟩ : ∃ wo, wo = wr := ⟨_, rfl⟩
        go_loopw [74] (fun s wr => ∃ q : Nat, q ≤ mj' ∧ s = .int .i64 q ∧ CollAt wr bc br (iter (byF (timesF P d) P.n (P.cj j i)) q xj) ∧ wo.grownBy wr (some bc)) (fun s _ => mj' - (intOf s).toNat)
        case atStart => exact ⟨0, Nat.zero_le _, rfl, HCJ.out, World.grownBy.refl _ _⟩
        case round =>
          obtain ⟨q, hq, rfl, hcq, hgq⟩ := hrel
          have hcpq := hcq.ptr
          have hrq := HRJ.out.grown hgq (by simp; omega)
          have hnq : NV P (iter (byF (timesF P d) P.n (P.cj j i)) q xj) := iter_inv (fun z hz => byF_NV hv d _ z hz) _ _ HNJ.out
          have HRQ := Lib.hid hrq
          have HCQ := Lib.hid hcq
          have HNQ := Lib.hid hnq
          clear hcpj hrnj hRj hrq hcq hnq
          by_cases hql : q < mj'
          · go_wp2_with (first
              | (refine wpList_load_mid rfl 87 (.tmp 86) rfl br _ rfl (vec (P.cj j i)) _ (HRQ.out.cj j (by omega) i (by omega)) Try.underlying87 rfl (by rw [length_vec]; exact info82) ?_)
              | (go_at_call 82; refine (HB'.out _ bc br _ (P.cj j i) HCQ.out HRQ.out hne HNQ.out (norm_pow hv (hv.cj j hlt i (by omega)) hd)).mono ?_; rintro e w5 ⟨rfl, hc5, hg5⟩))
            go_roundw
            case rel => exact ⟨q + 1, by omega, by go_num, hc5, only_trans hgq hg5⟩
            case measure => simp [intOf]; omega
          · have hqm : q = mj' := by omega
            subst hqm
            go_wp2_with fail
            go_roundw
            case rel => exact ⟨j + 1, by omega, by omega, by go_num, by (rw [HF.out]; exact HCQ.out), only_trans hgj hgq⟩
            case measure => simp [intOf]; omega
      · have hjn : j = P.n := by omega
        subst hjn
        go_wp2_with fail
        go_end0
        refine ⟨rfl, ?_, only_trans HGL.out hgj⟩
        show CollAt _ _ _ (foldTo _ _ (start P d i x))
        rw [HXg.out]
        exact hcj
end Go.Proofs
namespace Go.Proofs
open Go.RowKit Go.Proofs.Pc
theorem sz3 (w : World) : (sizeOf 3).run Try.prog w = .ok 1 w := by kernel_rfl
theorem sz82 (w : World) : (sizeOf 87).run Try.prog w = .ok 12 w := by kernel_rfl
/-- the zero rules with n -/
theorem zc86 : Try.zeroCells91 = Array.replicate 1885 (.int .i64 0) := by kernel_rfl
structure Rul (w : World) (br : Nat) (n : Int) (o : List Int) (dp : Nat → List Int) (dc : Nat → Nat → List Int) : Prop where
  blk : ∃ C : Array Value, w.heap[br]? = some (.cells C 91 (0, 0)) ∧ C.size = 1885
  n : w.cell? ⟨br, 0, none⟩ = some (.int .i64 n)
  ord : w.rangeAt br 1 (vec o)
  pow : ∀ i, i < 12 → w.rangeAt br (13 + i * 12) (vec (dp i))
  cj : ∀ j, j < 12 → ∀ i, i < 12 → w.rangeAt br (157 + j * 144 + i * 12) (vec (dc j i))
theorem Rul.there {w : World} {br : Nat} {n : Int} {o : List Int} {dp : Nat → List Int} {dc : Nat → Nat → List Int} (h : Rul w br n o dp dc) (k : Nat) (hk : k + 12 ≤ 1885) : w.there br k 12 := by
  obtain ⟨C, hC, hs⟩ := h.blk
  intro j hj
  refine ⟨?_, frozen_of_row w br _ _ _ hC⟩
  rw [cell_of_row w br _ _ _ _ hC]
  have : k + j < C.size := by omega
  simp [this]
theorem heap_setCells (b : Nat) (t : TypeId) (N : Nat) : ∀ (vs : List Value) (o : Nat) (w : World), (∃ C : Array Value, w.heap[b]? = some (.cells C t (0, 0)) ∧ C.size = N) → ∃ C : Array Value, (w.setCells b o vs).heap[b]? = some (.cells C t (0, 0)) ∧ C.size = N
  | [], _, _, h => h
  | v :: r, o, w, ⟨C, hC, hs⟩ => by
    rw [World.setCells]
    refine heap_setCells b t N r (o + 1) _ ⟨C.setIfInBounds o v, ?_, by simpa using hs⟩
    simp [World.setCell, Array.getElem?_modify, hC]
theorem rangeAt_fill {w : World} {b o : Nat} {xs : List Int} (h : w.rangeAt b o (vec [])) (hl : xs.length ≤ 12) : (w.setCells b o (ints xs)).rangeAt b o (vec xs) := by
  intro j v hv
  have hj : j < 12 := by have := (List.getElem?_eq_some_iff.1 hv).1; rwa [length_vec] at this
  rw [getElem?_vec _ hj] at hv
  injection hv with hv
  subst hv
  have hli : (ints xs).length = xs.length := by simp [ints]
  rcases Nat.lt_or_ge j xs.length with h1 | h1
  · rw [World.cell?_setCells_in b (ints xs) o w (fun i hi => by rw [h i _ (getElem?_vec _ (by omega))]; rfl) j (by omega)]
    simp [ints, List.getD_eq_getElem?_getD, List.getElem?_eq_getElem h1]
  · rw [World.cell?_setCells_out b (ints xs) o w ⟨b, o + j, none⟩ (fun _ _ => .inr (by show o + _ ≤ o + j; omega)), h j _ (getElem?_vec _ hj)]
    simp [List.getD_eq_getElem?_getD, List.getElem?_eq_none h1]
section
variable {w : World} {br : Nat} {n : Int} {o xs : List Int} {dp : Nat → List Int} {dc : Nat → Nat → List Int}
theorem len_ints (xs : List Int) : (ints xs).length = xs.length := by simp [ints]
theorem Rul.setOrd (h : Rul w br n [] dp dc) (hl : xs.length ≤ 12) : Rul (w.setCells br 1 (ints xs)) br n xs dp dc :=
  ⟨heap_setCells br 91 1885 _ _ _ h.blk, (World.cell?_setCells_out br _ 1 w ⟨br, 0, none⟩ (fun _ _ => .inl (by show 0 < 1; omega))).trans h.n, rangeAt_fill h.ord hl,
    fun i hi => World.rangeAt_setCells_apart (h.pow i hi) _ _ _ (by rw [len_ints, length_vec]; omega), fun j hj i hi => World.rangeAt_setCells_apart (h.cj j hj i hi) _ _ _ (by rw [len_ints, length_vec]; omega)⟩
theorem Rul.setPow {r : Nat} (h : Rul w br n o dp dc) (hr : r < 12) (h0 : dp r = []) (hl : xs.length ≤ 12) : Rul (w.setCells br (13 + r * 12) (ints xs)) br n o (fun i => if i = r then xs else dp i) dc :=
  ⟨heap_setCells br 91 1885 _ _ _ h.blk, (World.cell?_setCells_out br _ _ w ⟨br, 0, none⟩ (fun _ _ => .inl (by show 0 < _; omega))).trans h.n, World.rangeAt_setCells_apart h.ord _ _ _ (by rw [len_ints, length_vec]; omega),
    fun i hi => by
      by_cases e : i = r
      · subst e; rw [if_pos rfl]; exact rangeAt_fill (by rw [← h0]; exact h.pow i hi) hl
      · rw [if_neg e]; exact World.rangeAt_setCells_apart (h.pow i hi) _ _ _ (by rw [len_ints, length_vec]; omega),
    fun j hj i hi => World.rangeAt_setCells_apart (h.cj j hj i hi) _ _ _ (by rw [len_ints, length_vec]; omega)⟩
theorem Rul.setCj {r q : Nat} (h : Rul w br n o dp dc) (hr : r < 12) (hq : q < 12) (h0 : dc r q = []) (hl : xs.length ≤ 12) : Rul (w.setCells br (157 + r * 144 + q * 12) (ints xs)) br n o dp (fun j i => if j = r ∧ i = q then xs else dc j i) :=
  ⟨heap_setCells br 91 1885 _ _ _ h.blk, (World.cell?_setCells_out br _ _ w ⟨br, 0, none⟩ (fun _ _ => .inl (by show 0 < _; omega))).trans h.n, World.rangeAt_setCells_apart h.ord _ _ _ (by rw [len_ints, length_vec]; omega),
    fun i hi => World.rangeAt_setCells_apart (h.pow i hi) _ _ _ (by rw [len_ints, length_vec]; omega),
    fun j hj i hi => by
      by_cases e : j = r ∧ i = q
      · obtain ⟨rfl, rfl⟩ := e; simp only [and_self, if_true]; exact rangeAt_fill (by rw [← h0]; exact h.cj j hj i hi) hl
      · rw [if_neg e]; exact World.rangeAt_setCells_apart (h.cj j hj i hi) _ _ _ (by rw [len_ints, length_vec]; omega)⟩
theorem Rul.block {w' : World} (h : Rul w br n o dp dc) (hk : w'.heap[br]? = w.heap[br]?) : Rul w' br n o dp dc :=
  ⟨by rw [hk]; exact h.blk, (World.cell?_of_block (a := ⟨br, 0, none⟩) hk).trans h.n, rangeAt_keep h.ord hk, fun i hi => rangeAt_keep (h.pow i hi) hk, fun j hj i hi => rangeAt_keep (h.cj j hj i hi) hk⟩
theorem Rul.congr {dp' : Nat → List Int} {dc' : Nat → Nat → List Int} (h : Rul w br n o dp dc) (h1 : ∀ i, i < 12 → dp i = dp' i) (h2 : ∀ j i, j < 12 → i < 12 → dc j i = dc' j i) : Rul w br n o dp' dc' :=
  ⟨h.blk, h.n, h.ord, fun i hi => by rw [← h1 i hi]; exact h.pow i hi, fun j hj i hi => by rw [← h2 j i hj hi]; exact h.cj j hj i hi⟩
theorem Rul.new (w : World) (n : Int) : Rul (w.alloc (.cells (Try.zeroCells91.setIfInBounds 0 (.int .i64 n)) 91)) w.heap.size n [] (fun _ => []) (fun _ _ => []) := by
  have hb := heap_alloc_new w (.cells (Try.zeroCells91.setIfInBounds 0 (.int .i64 n)) 91)
  have hs : (Try.zeroCells91.setIfInBounds 0 (.int .i64 n)).size = 1885 := by simp [zc86]
  have hz : ∀ k, 0 < k → k + 12 ≤ 1885 → (w.alloc (.cells (Try.zeroCells91.setIfInBounds 0 (.int .i64 n)) 91)).rangeAt w.heap.size k (vec []) := fun k h0 hk j v hv => by
    have hj : j < 12 := by have := (List.getElem?_eq_some_iff.1 hv).1; rwa [length_vec] at this
    rw [getElem?_vec _ hj] at hv
    rw [cell_of_row _ _ _ _ _ _ hb, ← hv]
    have h1 : (0 : Nat) ≠ k + j := by omega
    have h2 : k + j < 1885 := by omega
    rw [zc86, Array.getElem?_setIfInBounds_ne h1, Array.getElem?_replicate, if_pos h2]
    rfl
  refine ⟨⟨Try.zeroCells91.setIfInBounds 0 (.int .i64 n), hb, hs⟩, ?_, hz 1 (by omega) (by omega), fun i hi => hz _ (by omega) (by omega), fun j hj i hi => hz _ (by omega) (by omega)⟩
  rw [cell_of_row _ _ _ _ _ _ hb]
  rw [zc86]
  simp
end
theorem setCells_drew (b : Nat) : ∀ (vs : List Value) (o : Nat) (w : World), w.drew.setCells b o vs = (w.setCells b o vs).drew
  | [], _, _ => rfl
  | v :: r, o, w => by rw [World.setCells, World.setCells]; exact setCells_drew b r (o + 1) (w.setCell ⟨b, o, none⟩ v)
/-- 'copy(arr[:], l)' -/
theorem copy12 {w : World} {b o : Nat} {vs : Value} {xs : List Int} (hs : IntsAt w vs xs) (hl : xs.length ≤ 12) (hth : w.there b o 12) (ty : TypeId) :
    (Builtin.copy_ #[22, 22] ty #[.slice (some ⟨b, o, none⟩) 12 12, vs]).run Try.prog w = .ok (.int .i64 xs.length) (w.setCells b o (ints xs)) := by
  have h3 : (Try.prog.info? 3).map (·.size) = some 1 := by kernel_rfl
  obtain ⟨A, cap, rfl, h1, h2, h4⟩ := hs.open_
  by_cases h0 : xs.length = 0
  · have : xs = [] := List.eq_nil_of_length_eq_zero h0
    subst this
    exact run_copy_none (P := Try.prog) w 22 22 ty 3 _ _ _ _ _ _ Try.underlying22 h3 (by show Nat.min 0 12 = 0; rfl)
  · obtain ⟨b', o', rfl, hc⟩ := h4 (by omega)
    have := run_copy_cells (P := Try.prog) w 22 22 ty 3 b o 12 12 ⟨b', o', none⟩ xs.length cap (ints xs) Try.underlying22 h3 (by rw [len_ints]; exact (Nat.min_eq_left hl).symm)
      (fun j v hv => by
        have hj : j < xs.length := by have := (List.getElem?_eq_some_iff.1 hv).1; rwa [len_ints] at this
        rw [Addr.add_mid, hc j hj, ← hv]
        simp [ints, List.getD_eq_getElem?_getD, List.getElem?_eq_getElem hj])
      (fun j hj => (hth j (by rw [len_ints] at hj; omega)).1) (fun j hj => (hth j (by rw [len_ints] at hj; omega)).2) (fun v hv => by simp [ints] at hv; obtain ⟨k, _, rfl⟩ := hv; rfl)
    rw [this, len_ints]
    rfl
end Go.Proofs
namespace Go.Proofs.Pc
def uP (P : PcD) (i : Nat) (x : Int) : V := (List.range P.n).map fun k => if k = i then x else 0
def mulP (P : PcD) (x y : V) : V := byF (timesF P P.n) P.n y x
theorem getD_uP (P : PcD) (i k : Nat) (x : Int) : (uP P i x).getD k 0 = if k = i ∧ k < P.n then x else 0 := by
  unfold uP
  rcases Nat.lt_or_ge k P.n with hk | hk
  · simp [List.getD_eq_getElem?_getD, hk]
  · rw [List.getD_eq_getElem?_getD, List.getElem?_eq_none (by simpa using hk), if_neg (by omega)]
    rfl
theorem uP_NV {P : PcD} (hv : Valid P) {i : Nat} {x : Int} (hx : 0 ≤ x) (hx2 : i < P.n → x < P.ord i) : NV P (uP P i x) := by
  refine ⟨by simp [uP], fun k hk => ?_⟩
  rw [getD_uP]
  have := hv.ord2 k hk
  by_cases h : k = i ∧ k < P.n
  · rw [if_pos h]
    obtain ⟨rfl, _⟩ := h
    exact ⟨hx, hx2 hk⟩
  · rw [if_neg h]; omega
theorem mulP_NV {P : PcD} (hv : Valid P) {x y : V} (hx : NV P x) : NV P (mulP P x y) := byF_NV hv _ _ _ hx
theorem norm_NV {P : PcD} {y : V} {a : Nat} (h : Norm P y a) : NV P y := ⟨h.1, fun k hk => ⟨(h.2 k hk).1, (h.2 k hk).2.1⟩⟩
def pK (P : PcD) (i j k : Nat) : V × V := (mulP P (mulP P (uP P k 1) (uP P j 1)) (uP P i 1), mulP P (uP P k 1) (mulP P (uP P j 1) (uP P i 1)))
def pJ1 (P : PcD) (i j : Nat) : V × V := (mulP P (P.pow j) (uP P i 1), mulP P (uP P j (P.ord j - 1)) (mulP P (uP P j 1) (uP P i 1)))
def pJ2 (P : PcD) (i j : Nat) : V × V := (iter (timesF P P.n i) (P.ord i).toNat (uP P j 1), mulP P (uP P j 1) (P.pow i))
def pI (P : PcD) (i : Nat) : V × V := (mulP P (P.pow i) (uP P i 1), mulP P (uP P i 1) (P.pow i))
/-- the overlaps of i, j, and k below m -/
def ovK (P : PcD) (i j m : Nat) : List (V × V) := foldTo (fun t l => l ++ [pK P i j (j + 1 + t)]) (m - (j + 1)) []
def ovJ (P : PcD) (i m : Nat) : List (V × V) := foldTo (fun t l => l ++ ([pJ1 P i (i + 1 + t), pJ2 P i (i + 1 + t)] ++ ovK P i (i + 1 + t) P.n)) (m - (i + 1)) []
def ovI (P : PcD) (m : Nat) : List (V × V) := foldTo (fun i l => l ++ ([pI P i] ++ ovJ P i P.n)) m []
def ovl (P : PcD) : List (V × V) := ovI P P.n
theorem ovK_succ (P : PcD) {i j k : Nat} (h : j + 1 ≤ k) : ovK P i j (k + 1) = ovK P i j k ++ [pK P i j k] := by
  unfold ovK
  rw [show k + 1 - (j + 1) = (k - (j + 1)) + 1 by omega]
  show foldTo _ (k - (j + 1)) [] ++ [pK P i j (j + 1 + (k - (j + 1)))] = _
  rw [show j + 1 + (k - (j + 1)) = k by omega]
theorem ovJ_succ (P : PcD) {i j : Nat} (h : i + 1 ≤ j) : ovJ P i (j + 1) = ovJ P i j ++ ([pJ1 P i j, pJ2 P i j] ++ ovK P i j P.n) := by
  unfold ovJ
  rw [show j + 1 - (i + 1) = (j - (i + 1)) + 1 by omega]
  show foldTo _ (j - (i + 1)) [] ++ ([pJ1 P i (i + 1 + (j - (i + 1))), pJ2 P i (i + 1 + (j - (i + 1)))] ++ ovK P i (i + 1 + (j - (i + 1))) P.n) = _
  rw [show i + 1 + (j - (i + 1)) = j by omega]
theorem ovI_succ (P : PcD) (i : Nat) : ovI P (i + 1) = ovI P i ++ ([pI P i] ++ ovJ P i P.n) := rfl
/-- pre is where the list begins -/
def Pre (pre l : List (V × V)) : Prop := ∃ s, l = pre ++ s
theorem Pre.refl (l : List (V × V)) : Pre l l := ⟨[], by simp⟩
theorem Pre.trans {a b c : List (V × V)} (h : Pre a b) (k : Pre b c) : Pre a c := by
  obtain ⟨s, rfl⟩ := h; obtain ⟨t, rfl⟩ := k; exact ⟨s ++ t, by simp⟩
theorem Pre.app {a b : List (V × V)} (c : List (V × V)) (h : Pre a b) : Pre (c ++ a) (c ++ b) := by
  obtain ⟨s, rfl⟩ := h; exact ⟨s, by simp⟩
theorem pre_ovK (P : PcD) {i j : Nat} : ∀ {k m : Nat}, k ≤ m → Pre (ovK P i j k) (ovK P i j m) := by
  intro k m h
  induction m with
  | zero => have : k = 0 := by omega
            subst this; exact Pre.refl _
  | succ m ih =>
    rcases Nat.lt_or_ge k (m + 1) with h1 | h1
    · rcases Nat.lt_or_ge m (j + 1) with h2 | h2
      · have e : ∀ q, q ≤ j + 1 → ovK P i j q = [] := fun q hq => by unfold ovK; rw [show q - (j + 1) = 0 by omega]; rfl
        rw [e k (by omega), e (m + 1) (by omega)]; exact Pre.refl _
      · rw [ovK_succ P h2]; exact (ih (by omega)).trans ⟨_, rfl⟩
    · have : k = m + 1 := by omega
      subst this; exact Pre.refl _
theorem pre_ovJ (P : PcD) {i : Nat} : ∀ {k m : Nat}, k ≤ m → Pre (ovJ P i k) (ovJ P i m) := by
  intro k m h
  induction m with
  | zero => have : k = 0 := by omega
            subst this; exact Pre.refl _
  | succ m ih =>
    rcases Nat.lt_or_ge k (m + 1) with h1 | h1
    · rcases Nat.lt_or_ge m (i + 1) with h2 | h2
      · have e : ∀ q, q ≤ i + 1 → ovJ P i q = [] := fun q hq => by unfold ovJ; rw [show q - (i + 1) = 0 by omega]; rfl
        rw [e k (by omega), e (m + 1) (by omega)]; exact Pre.refl _
      · rw [ovJ_succ P h2]; exact (ih (by omega)).trans ⟨_, rfl⟩
    · have : k = m + 1 := by omega
      subst this; exact Pre.refl _
theorem pre_ovI (P : PcD) : ∀ {k m : Nat}, k ≤ m → Pre (ovI P k) (ovI P m) := by
  intro k m h
  induction m with
  | zero => have : k = 0 := by omega
            subst this; exact Pre.refl _
  | succ m ih =>
    rcases Nat.lt_or_ge k (m + 1) with h1 | h1
    · rw [ovI_succ]; exact (ih (by omega)).trans ⟨_, rfl⟩
    · have : k = m + 1 := by omega
      subst this; exact Pre.refl _
/-- the places within the list -/
theorem pre_I (P : PcD) {i : Nat} (hi : i < P.n) : Pre (ovI P i ++ [pI P i]) (ovl P) := by
  refine Pre.trans (b := ovI P (i + 1)) ?_ (pre_ovI P (by omega))
  rw [ovI_succ]
  exact Pre.app _ ⟨_, rfl⟩
theorem pre_J (P : PcD) {i j : Nat} (hi : i < P.n) (hj : j ≤ P.n) : Pre (ovI P i ++ ([pI P i] ++ ovJ P i j)) (ovl P) := by
  refine Pre.trans (b := ovI P (i + 1)) ?_ (pre_ovI P (by omega))
  rw [ovI_succ]
  exact Pre.app _ (Pre.app _ (pre_ovJ P hj))
theorem pre_J' (P : PcD) {i j : Nat} {x : List (V × V)} (hi : i < P.n) (hij : i + 1 ≤ j) (hj : j < P.n) (hx : Pre x ([pJ1 P i j, pJ2 P i j] ++ ovK P i j P.n)) : Pre (ovI P i ++ ([pI P i] ++ (ovJ P i j ++ x))) (ovl P) := by
  refine Pre.trans ?_ (pre_J P hi (show j + 1 ≤ P.n by omega))
  rw [ovJ_succ P hij]
  exact Pre.app _ (Pre.app _ (Pre.app _ hx))
def eq12 (x y : V) : Bool := (List.range 12).all fun k => x.getD k 0 == y.getD k 0
def consB (P : PcD) : Bool := (ovl P).all fun p => eq12 p.1 p.2
end Go.Proofs.Pc
