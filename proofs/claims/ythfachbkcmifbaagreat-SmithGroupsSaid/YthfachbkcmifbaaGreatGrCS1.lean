/- Words for memory: slices that read as lists; slices of the call's own that grow; append of one list to another of the call's own; Diagonal forms of matrices of integers, plainly: the operations and the steps of the procedure. -/
import Derived.WalkKit
import Derived.WalkSpells
import Derived.WalkLawsBesides
import Derived.Lib.Hide
import Derived.Deep.QuietTactic
import Derived.BigQuiet
import Derived.KernelRfl
import Derived.Shelf.Abstract
import Derived.Laws.AppendOwn
import Derived.Maps.AppendAt
import Derived.Maps.OwnSet
import Derived.Maps.OwnOps
import Derived.Deep.AppendSrc
import Derived.Test.YthfachbkcmifbaaGreatProg
namespace Go.Proofs
open Go.RowKit
/-- The cells from b, off on hold vs. -/
def Row (w : World) (b off : Nat) (vs : List Value) : Prop := ∀ j v, vs[j]? = some v → w.cell? ⟨b, off + j, none⟩ = some v
/-- The slice value v reads as the list vs (elements of one cell). -/
def Sl (w : World) (v : Value) (vs : List Value) : Prop :=
  ∃ A n cap, v = .slice A n cap ∧ n = vs.length ∧ n ≤ cap ∧ cap ≤ maxLen ∧ (0 < n → ∃ b off, A = some ⟨b, off, none⟩ ∧ Row w b off vs)
def ints (xs : List Int) : List Value := xs.map (Value.int .i64)
def Fits (xs : List Int) : Prop := ∀ x ∈ xs, -9223372036854775808 ≤ x ∧ x ≤ 9223372036854775807
def IntsAt (w : World) (v : Value) (xs : List Int) : Prop := Sl w v (ints xs) ∧ Fits xs
section
variable {w w' : World} {v : Value} {vs : List Value}
theorem Row.lt {b off : Nat} (h : Row w b off vs) (hn : 0 < vs.length) : b < w.heap.size := by
  have := h 0 _ (List.getElem?_eq_getElem hn)
  exact World.block_lt_of_cell? w _ this
theorem Row.keep {b off : Nat} (h : Row w b off vs) (hk : ∀ p : Addr, p.block < w.heap.size → w'.cell? p = w.cell? p) : Row w' b off vs := by
  intro j u hu
  have := h j u hu
  rw [hk _ (World.block_lt_of_cell? w _ this)]
  exact this
theorem Sl.keep (h : Sl w v vs) (hk : ∀ p : Addr, p.block < w.heap.size → w'.cell? p = w.cell? p) : Sl w' v vs := by
  obtain ⟨A, n, cap, h1, h2, h3, h4, h5⟩ := h
  exact ⟨A, n, cap, h1, h2, h3, h4, fun hn => let ⟨b, off, ha, hr⟩ := h5 hn; ⟨b, off, ha, hr.keep hk⟩⟩
theorem Sl.below (h : Sl w v vs) (hb : Below w.heap.size w w') : Sl w' v vs := h.keep fun _ hp => hb.cell hp
theorem IntsAt.below {xs : List Int} (h : IntsAt w v xs) (hb : Below w.heap.size w w') : IntsAt w' v xs := ⟨h.1.below hb, h.2⟩
theorem Sl.drewN (h : Sl w v vs) (k : Nat) : Sl (w.drewN k) v vs := h
theorem IntsAt.drewN {xs : List Int} (h : IntsAt w v xs) (k : Nat) : IntsAt (w.drewN k) v xs := h
theorem IntsAt.open_ {xs : List Int} (h : IntsAt w v xs) : ∃ A cap, v = .slice A xs.length cap ∧ xs.length ≤ cap ∧ cap ≤ 9223372036854775807 ∧
    (0 < xs.length → ∃ b off, A = some ⟨b, off, none⟩ ∧ ∀ k, k < xs.length → w.cell? ⟨b, off + k, none⟩ = some (.int .i64 (xs.getD k 0))) := by
  obtain ⟨⟨A, n, cap, h1, h2, h3, h4, h5⟩, hf⟩ := h
  have hl : n = xs.length := by simpa [ints] using h2
  subst hl
  refine ⟨A, cap, h1, h3, by simpa [maxLen] using h4, fun hn => ?_⟩
  obtain ⟨b, off, ha, hr⟩ := h5 hn
  refine ⟨b, off, ha, fun k hk => hr k _ ?_⟩
  simp [ints, List.getElem?_map, List.getD_eq_getElem?_getD, List.getElem?_eq_getElem hk]
theorem Fits.at_ {xs : List Int} (h : Fits xs) (k : Nat) : -9223372036854775808 ≤ xs.getD k 0 ∧ xs.getD k 0 ≤ 9223372036854775807 := by
  rw [List.getD_eq_getElem?_getD]
  rcases Nat.lt_or_ge k xs.length with hk | hk
  · rw [List.getElem?_eq_getElem hk]; exact h _ (List.getElem_mem hk)
  · rw [List.getElem?_eq_none hk]; simp
end
/-- A slice whose elements (one cell each) read, by R, as the list xs. -/
def LAt {α : Type} (R : World → Value → α → Prop) (d : α) (w : World) (v : Value) (xs : List α) : Prop :=
  ∃ vs, Sl w v vs ∧ vs.length = xs.length ∧ ∀ i, i < xs.length → ∃ u, vs[i]? = some u ∧ R w u (xs.getD i d)
def Kept {α : Type} (R : World → Value → α → Prop) : Prop := ∀ w w' v x, (∀ k, k < w.heap.size → w'.heap[k]? = w.heap[k]?) → R w v x → R w' v x
theorem cell_blocks {w w' : World} (h : ∀ k, k < w.heap.size → w'.heap[k]? = w.heap[k]?) (p : Addr) (hp : p.block < w.heap.size) : w'.cell? p = w.cell? p := World.cell?_of_block (h p.block hp)
theorem kept_ints : Kept IntsAt := fun _ _ _ _ hk h => ⟨h.1.keep (cell_blocks hk), h.2⟩
theorem kept_L {α : Type} {R : World → Value → α → Prop} {d : α} (hR : Kept R) : Kept (LAt R d) := fun _w _w' _v _xs hk ⟨vs, h1, h2, h3⟩ =>
  ⟨vs, h1.keep (cell_blocks hk), h2, fun i hi => let ⟨u, hu, hr⟩ := h3 i hi; ⟨u, hu, hR _ _ _ _ hk hr⟩⟩
abbrev Tab := LAt IntsAt []
theorem kept_tab : Kept Tab := kept_L kept_ints
theorem Kept.below {α : Type} {R : World → Value → α → Prop} (hR : Kept R) {w w' : World} {v : Value} {x : α} (h : R w v x) (hb : Below w.heap.size w w') : R w' v x := hR _ _ _ _ hb.block h
/-- The slice opened: an address where there is an element. -/
theorem LAt.open_ {α : Type} {R : World → Value → α → Prop} {d : α} {w : World} {v : Value} {xs : List α} (h : LAt R d w v xs) : ∃ A cap, v = .slice A xs.length cap ∧ xs.length ≤ cap ∧ cap ≤ 9223372036854775807 ∧
    (0 < xs.length → ∃ b off, A = some ⟨b, off, none⟩ ∧ ∀ k, k < xs.length → ∃ u, w.cell? ⟨b, off + k, none⟩ = some u ∧ R w u (xs.getD k d)) := by
  obtain ⟨vs, ⟨A, n, cap, h1, h2, h3, h4, h5⟩, hl, he⟩ := h
  have hn : n = xs.length := h2.trans hl
  subst hn
  refine ⟨A, cap, h1, h3, by simpa [maxLen] using h4, fun hn => ?_⟩
  obtain ⟨b, off, ha, hr⟩ := h5 hn
  refine ⟨b, off, ha, fun k hk => ?_⟩
  obtain ⟨u, hu, hru⟩ := he k hk
  exact ⟨u, hr k u hu, hru⟩
theorem quiet_add_left {P : Program} {f : FuncId} {args : Array Value} {w : World} {a n : Nat} {v : Value}
    (h : Calls P f args (w.drewN (a + n)) fun e w' => e = .returned v ∧ w.drewN (a + n) = w') :
    Calls P f args (w.drewN (a + n)) fun e w'' => e = .returned v ∧ ∃ m, w'' = w.drewN (a + m) :=
  h.mono fun _ _ ⟨he, hm⟩ => ⟨he, n, hm.symm⟩
theorem quiet_left {P : Program} {f : FuncId} {args : Array Value} {w : World} {n : Nat} {v : Value}
    (h : Calls P f args (w.drewN n) fun e w' => e = .returned v ∧ w.drewN n = w') : Calls P f args (w.drewN n) fun e w'' => e = .returned v ∧ ∃ m, w'' = w.drewN m :=
  h.mono fun _ _ ⟨he, hm⟩ => ⟨he, n, hm.symm⟩
theorem ret_bool {a b : Bool} (h : a = b) : Ending.returned (.bool a) = Ending.returned (.bool b) := by rw [h]
theorem ret_int {k : IntKind} {a b : Int} (h : a = b) : Ending.returned (.int k a) = Ending.returned (.int k b) := by rw [h]
theorem below_drewN {B : Nat} {a w : World} (h : Below B a w) (n : Nat) : Below B a (w.drewN n) := ⟨h.os, h.tape, h.output, h.size, h.block⟩
theorem ints_app (a b : List Int) : ints (a ++ b) = ints a ++ ints b := by simp [ints]
theorem length_ints (a : List Int) : (ints a).length = a.length := by simp [ints]
theorem getD_ext {α : Type} {d : α} {A B : List α} (hl : A.length = B.length) (h : ∀ k, k < A.length → A.getD k d = B.getD k d) : A = B := by
  apply List.ext_getElem hl
  intro i h1 h2
  have := h i h1
  simpa [List.getD_eq_getElem?_getD, h1, h2] using this
theorem getD_ne {α : Type} {d : α} {A B : List α} {k : Nat} (h : A.getD k d ≠ B.getD k d) : A ≠ B := fun e => h (by rw [e])
theorem ex_drewN {w : World} {n m : Nat} : ∃ q, (w.drewN n).drewN m = w.drewN q := ⟨_, World.drewN_drewN _ _ _⟩
theorem all_succ {p : Nat → Prop} {k : Nat} (h : ∀ j, j < k → p j) (hk : p k) : ∀ j, j < k + 1 → p j := fun j hj => by
  rcases Nat.lt_or_ge j k with h1 | h1
  · exact h j h1
  · obtain rfl : j = k := by omega
    exact hk
theorem intsAt_nil {w : World} : IntsAt w (.slice none 0 0) [] := ⟨⟨none, 0, 0, rfl, rfl, Nat.le_refl _, by simp [maxLen], fun h => absurd h (by simp)⟩, fun x hx => by cases hx⟩
theorem tab_nil {w : World} : Tab w (.slice none 0 0) [] := ⟨[], ⟨none, 0, 0, rfl, rfl, Nat.le_refl _, by simp [maxLen], fun h => absurd h (by omega)⟩, rfl, fun i hi => absurd hi (by simp)⟩
section
variable {ops : Array Oper} {rest : List Oper} {o : Oper} {a : Act} {w w' : World} {Q : Exit → Act → World → Prop} {v : Value}
theorem wpList_sel (s : Nat) {op : Op} {t : TypeId} {p : String} {af : Array Edge} {g : Option (Nat × Bool)} (h : wpList Tryz.prog ops Q (⟨some s, op, t, p, af, g⟩ :: rest) a w) : wpList Tryz.prog ops Q (⟨some s, op, t, p, af, g⟩ :: rest) a w := h
theorem wpList_val (hg : o.guard = none) (hrun : (execOp a.eval o).run Tryz.prog w = .ok (.value v) w') (h : wpList Tryz.prog ops Q rest (a.put o.dst v) w') : wpList Tryz.prog ops Q (o :: rest) a w :=
  wpList_plain hg fun _ hK => by
    unfold Oper.wp
    rw [hrun]
    exact hK _ _ h
theorem r_app (s x : Operand) (t : TypeId) {sv xv v' : Value} (ho : o.op = .call { callee := .builtin .append, args := #[s, x], argTypes := #[t, t] }) (hs : a.eval s = sv) (hx : a.eval x = xv)
    (hr : (Builtin.append_ #[t, t] o.type #[sv, xv]).run Tryz.prog w = .ok v' w') : (execOp a.eval o).run Tryz.prog w = .ok (.value v') w' := by
  unfold execOp
  simp only [ho, resolve, invoke, builtin, Sem.run_bind, Sem.run_pure, Result.andThen_ok, List.map_toArray, List.map_cons, List.map_nil, hs, hx, hr]
end
theorem owns_block {w : World} {base e n : Nat} {v : Value} {xs : List Value} (h : w.ownsRow base e 1 v n xs) : ∀ r, v.ownBlock = some r → base ≤ r ∧ ∃ C, w.heap[r]? = some (.cells C e (0, 0)) := fun r hr => by
  rcases h.2 with ⟨rfl, -⟩ | ⟨g, cap, cur, rfl, hb, hg, -⟩
  · cases hr
  · have : g = r := Option.some.inj hr
    subst this
    exact ⟨hb, cur, hg⟩
theorem owns_lt {w : World} {base e n : Nat} {v : Value} {xs : List Value} (h : w.ownsRow base e 1 v n xs) {r : Nat} (hr : v.ownBlock = some r) : r < w.heap.size := by
  obtain ⟨-, C, hC⟩ := owns_block h r hr
  exact (Array.getElem?_eq_some_iff.1 hC).1
theorem owns_keep {w w' : World} {base e size n : Nat} {v : Value} {xs : List Value} (h : w.ownsRow base e size v n xs) (hb : ∀ r, v.ownBlock = some r → w'.heap[r]? = w.heap[r]?) : w'.ownsRow base e size v n xs := by
  obtain ⟨h1, h2⟩ := h
  refine ⟨h1, ?_⟩
  rcases h2 with h2 | ⟨g, cap, cur, a, b, hg, r⟩
  · exact .inl h2
  · exact .inr ⟨g, cap, cur, a, b, (hb g (by rw [a]; rfl)).trans hg, r⟩
theorem owns_form {w : World} {base e n : Nat} {v : Value} {xs : List Value} (h : w.ownsRow base e 1 v n xs) : ∃ A c, v = .slice A n c := by
  rcases h.2 with ⟨rfl, rfl⟩ | ⟨g, cap, cur, rfl, -⟩
  · exact ⟨none, 0, rfl⟩
  · exact ⟨_, _, rfl⟩
theorem owns_below {w w' : World} {base e size n : Nat} {v : Value} {xs : List Value} (h : w.ownsRow base e size v n xs) (hb : Below w.heap.size w w') : w'.ownsRow base e size v n xs := by
  obtain ⟨h1, h2⟩ := h
  refine ⟨h1, ?_⟩
  rcases h2 with h2 | ⟨g, cap, cur, a, b, hg, r⟩
  · exact .inl h2
  · exact .inr ⟨g, cap, cur, a, b, (hb.block _ (Array.getElem?_eq_some_iff.1 hg).1).trans hg, r⟩
theorem owns_base {w : World} {base base' e size n : Nat} {v : Value} {xs : List Value} (h : w.ownsRow base e size v n xs) (hb : base' ≤ base) : w.ownsRow base' e size v n xs := by
  obtain ⟨h1, h2⟩ := h
  refine ⟨h1, ?_⟩
  rcases h2 with h2 | ⟨g, cap, cur, a, b, r⟩
  · exact .inl h2
  · exact .inr ⟨g, cap, cur, a, Nat.le_trans hb b, r⟩
theorem sl_of_owns {w : World} {base e n : Nat} {v : Value} {xs : List Value} (h : w.ownsRow base e 1 v n xs) : Sl w v xs := by
  obtain ⟨hl, h⟩ := h
  rcases h with ⟨rfl, rfl⟩ | ⟨g, cap, cur, rfl, hbg, hg, hnc, hcm, hcs, htake⟩
  · exact ⟨none, 0, 0, rfl, by simpa using hl.symm, Nat.le_refl _, by simp [maxLen], fun h => absurd h (by omega)⟩
  · refine ⟨_, n, cap, rfl, by omega, hnc, hcm, fun _ => ⟨g, 0, rfl, fun j u hu => ?_⟩⟩
    rw [cell_of_row _ _ _ _ _ _ hg, Nat.zero_add]
    rw [← htake, List.getElem?_take] at hu
    split at hu
    · simpa using hu
    · cases hu
/-- v is a slice of numbers of the call's own -/
abbrev OwnI (base : Nat) (w : World) (v : Value) (xs : List Int) : Prop := w.ownsRow base 3 1 v xs.length (ints xs)
theorem OwnI.ints {base : Nat} {w : World} {v : Value} {xs : List Int} (h : OwnI base w v xs) (hf : Fits xs) : IntsAt w v xs := ⟨sl_of_owns h, hf⟩
theorem info3p : ∃ i, Tryz.prog.info? 3 = some i ∧ i.zero = some (.int .i64 0) ∧ i.size = 1 ∧ i.bytes = 8 := by
  have h : (Tryz.prog.info? 3).map (fun i => (i.zero, i.size, i.bytes)) = some (some (.int .i64 0), 1, 8) := by kernel_rfl
  cases hq : Tryz.prog.info? 3 with
  | none => simp [hq] at h
  | some i => simp [hq] at h; exact ⟨i, rfl, h⟩
theorem info24p : ∃ i, Tryz.prog.info? 25 = some i ∧ i.zero = some (.slice none 0 0) ∧ i.size = 1 ∧ i.bytes = 24 := by
  have h : (Tryz.prog.info? 25).map (fun i => (i.zero, i.size, i.bytes)) = some (some (.slice none 0 0), 1, 24) := by kernel_rfl
  cases hq : Tryz.prog.info? 25 with
  | none => simp [hq] at h
  | some i => simp [hq] at h; exact ⟨i, rfl, h⟩
/-- append of one element, which lies in a block just laid -/
theorem run_push {t ty e : TypeId} {z : Value} {bytes : Nat} (ht : Tryz.prog.underlying t = some (.slice e)) (hi : ∃ i, Tryz.prog.info? e = some i ∧ i.zero = some z ∧ i.size = 1 ∧ i.bytes = bytes) (hz : z.cells.size = 1) (hby : bytes ≤ 1000)
    (w : World) (base : Nat) (v : Value) (n : Nat) (xs : List Value) (hown : w.ownsRow base e 1 v n xs) (x : Value) (h1 : x.oneCell' = true) (hn : n ≤ 10000000) (hb : base ≤ w.heap.size) :
    ∃ A' c' w', (Builtin.append_ #[t, t] ty #[v, .slice (some ⟨w.heap.size, 0, none⟩) 1 1]).run Tryz.prog (w.alloc (.cells #[x] e)) = .ok (.slice A' (n + 1) c') w' ∧ w'.ownsRow base e 1 (.slice A' (n + 1) c') (n + 1) (xs ++ [x]) ∧
      w.grownBy w' v.ownBlock ∧ ((Value.slice A' (n + 1) c').ownBlock = v.ownBlock ∨ ∃ r, (Value.slice A' (n + 1) c').ownBlock = some r ∧ w.heap.size ≤ r) := by
  obtain ⟨i, hi, hz', hs, hb'⟩ := hi
  have hal : Below w.heap.size w (w.alloc (.cells #[x] e)) := (Below.refl _ _).alloc (Nat.le_refl _) _
  obtain ⟨v', w', hr, hown', hg, -, hw⟩ := run_append_own_at (P := Tryz.prog) (w.alloc (.cells #[x] e)) base t ty e i z 1 bytes ht hi hz' hs hb' hz (by omega) v n xs (owns_below hown hal) ⟨w.heap.size, 0, none⟩ 1 1 [x] rfl (cell_one_new _ _ _) (fun u hu => by simp at hu; rw [hu]; exact h1) (by unfold maxLen; omega)
    (by have : (n + 1) * bytes ≤ 10000001 * 1000 := Nat.mul_le_mul (by omega) hby
        omega) (by have := hal.size; omega)
  obtain ⟨A', c', rfl⟩ := owns_form hown'
  refine ⟨A', c', w', hr, hown', ?_, ?_⟩
  · have h2 := hg
    exact ⟨h2.os, h2.tape, h2.output, Nat.le_trans hal.size h2.size, fun k hk hne => (h2.block k (Nat.lt_of_lt_of_le hk hal.size) hne).trans (hal.block k hk)⟩
  · rcases hw with hw | hw
    · exact .inl hw
    · exact .inr ⟨_, hw, by simp⟩
theorem push_int (ty : TypeId) (t : TypeId) (ht : Tryz.prog.underlying t = some (.slice 3)) (w : World) (base : Nat) (v : Value) (xs : List Int) (h : OwnI base w v xs) (z : Int) (hx : xs.length ≤ 10000000) (hb : base ≤ w.heap.size) :
    ∃ A' c' w', (Builtin.append_ #[t, t] ty #[v, .slice (some ⟨w.heap.size, 0, none⟩) 1 1]).run Tryz.prog (w.alloc (.cells #[.int .i64 z] 3)) = .ok (.slice A' (xs.length + 1) c') w' ∧ OwnI base w' (.slice A' (xs.length + 1) c') (xs ++ [z]) ∧
      w.grownBy w' v.ownBlock ∧ ((Value.slice A' (xs.length + 1) c').ownBlock = v.ownBlock ∨ ∃ r, (Value.slice A' (xs.length + 1) c').ownBlock = some r ∧ w.heap.size ≤ r) := by
  obtain ⟨A', c', w', hr, ho, hg, hw⟩ := run_push (ty := ty) ht info3p rfl (by omega) w base v xs.length (ints xs) h (.int .i64 z) rfl hx hb
  refine ⟨A', c', w', hr, ?_, hg, hw⟩
  show w'.ownsRow base 3 1 _ (xs ++ [z]).length (ints (xs ++ [z]))
  rw [ints_app, List.length_append]
  exact ho
/-- the blocks of F are as they were -/
def Ag (F : Nat → Prop) (w w' : World) : Prop := ∀ k, F k → w'.heap[k]? = w.heap[k]?
theorem Ag.refl (F : Nat → Prop) (w : World) : Ag F w w := fun _ _ => rfl
theorem Ag.trans {F : Nat → Prop} {a b c : World} (h : Ag F a b) (k : Ag F b c) : Ag F a c := fun i hi => (k i hi).trans (h i hi)
theorem Ag.grown {F : Nat → Prop} {w w' : World} {row : Option Nat} (hg : w.grownBy w' row) (hF : ∀ k, F k → k < w.heap.size ∧ row ≠ some k) : Ag F w w' := fun k hk => hg.block k (hF k hk).1 (fun e => (hF k hk).2 e.symm)
theorem Ag.below {F : Nat → Prop} {w w' : World} (hb : Below w.heap.size w w') (hF : ∀ k, F k → k < w.heap.size) : Ag F w w' := fun k hk => hb.block k (hF k hk)
/-- u reads as x by the blocks of F -/
def IntsF (F : Nat → Prop) (w : World) (u : Value) (x : List Int) : Prop := ∀ w', Ag F w w' → IntsAt w' u x
theorem IntsF.at_ {F : Nat → Prop} {w : World} {u : Value} {x : List Int} (h : IntsF F w u x) : IntsAt w u x := h w (Ag.refl _ _)
theorem IntsF.keep {F : Nat → Prop} {w w' : World} {u : Value} {x : List Int} (h : IntsF F w u x) (ha : Ag F w w') : IntsF F w' u x := fun w'' h' => h w'' (ha.trans h')
theorem IntsF.mono {F G : Nat → Prop} {w : World} {u : Value} {x : List Int} (h : IntsF F w u x) (hg : ∀ k, F k → G k) : IntsF G w u x := fun w' h' => h w' fun k hk => h' k (hg k hk)
/-- the values vals read as the lists xs, by the blocks of F -/
def RowsF (F : Nat → Prop) (w : World) (vals : List Value) (xs : List (List Int)) : Prop := vals.length = xs.length ∧ ∀ j, j < xs.length → ∃ u, vals[j]? = some u ∧ IntsF F w u (xs.getD j [])
theorem RowsF.keep {F G : Nat → Prop} {w w' : World} {vals : List Value} {xs : List (List Int)} (h : RowsF F w vals xs) (ha : Ag F w w') (hg : ∀ k, F k → G k) : RowsF G w' vals xs :=
  ⟨h.1, fun j hj => let ⟨u, hu, hx⟩ := h.2 j hj; ⟨u, hu, (hx.keep ha).mono hg⟩⟩
theorem RowsF.nil (F : Nat → Prop) (w : World) : RowsF F w [] [] := ⟨rfl, fun j hj => absurd hj (by simp)⟩
/-- v is a slice of rows of the call's own; its rows lie in F -/
def OwnT (e : TypeId) (base : Nat) (F : Nat → Prop) (w : World) (v : Value) (xs : List (List Int)) : Prop := ∃ vals, w.ownsRow base e 1 v xs.length vals ∧ RowsF F w vals xs
theorem OwnT.tab {e : TypeId} {base : Nat} {F : Nat → Prop} {w : World} {v : Value} {xs : List (List Int)} (h : OwnT e base F w v xs) : Tab w v xs := by
  obtain ⟨vals, h1, h2⟩ := h
  exact ⟨vals, sl_of_owns h1, h2.1, fun i hi => let ⟨u, hu, hx⟩ := h2.2 i hi; ⟨u, hu, hx.at_⟩⟩
theorem OwnT.form {e : TypeId} {base : Nat} {F : Nat → Prop} {w : World} {v : Value} {xs : List (List Int)} (h : OwnT e base F w v xs) : ∃ A c, v = .slice A xs.length c := let ⟨_, h1, _⟩ := h; owns_form h1
theorem OwnT.keep {e : TypeId} {base : Nat} {F G : Nat → Prop} {w w' : World} {v : Value} {xs : List (List Int)} (h : OwnT e base F w v xs) (hv : ∀ r, v.ownBlock = some r → w'.heap[r]? = w.heap[r]?) (ha : Ag F w w') (hg : ∀ k, F k → G k) : OwnT e base G w' v xs :=
  let ⟨vals, h1, h2⟩ := h; ⟨vals, owns_keep h1 hv, h2.keep ha hg⟩
theorem OwnT.below {e : TypeId} {base : Nat} {F : Nat → Prop} {w w' : World} {v : Value} {xs : List (List Int)} (h : OwnT e base F w v xs) (hb : Below w.heap.size w w') (hF : ∀ k, F k → k < w.heap.size) : OwnT e base F w' v xs :=
  let ⟨_vals, h1, _h2⟩ := h; h.keep (fun _r hr => hb.block _ (owns_lt h1 hr)) (Ag.below hb hF) fun _ h => h
end Go.Proofs
namespace Go.Proofs
open Go.RowKit Go.Shelf Go.Maps
theorem run_append_none (w : World) (base : Nat) (t ty e : TypeId) (i : TypeInfo) (ht : Tryz.prog.underlying t = some (.slice e)) (hi : Tryz.prog.info? e = some i) (_hs : i.size = 1)
    (v : Value) (n : Nat) (xs : List Value) (cap : Nat) (hown : w.ownsRow base e 1 v n xs) : (Builtin.append_ #[t, t] ty #[v, .slice none 0 cap]).run Tryz.prog w = .ok v w := by
  rcases hown.2 with ⟨rfl, rfl⟩ | ⟨g, cap', cur, rfl, -, hg, hnc, hcm, hcs, htake⟩
  · simp [Builtin.append_, run_underlying ht, sizeOf, typeInfo, hi, Builtin.lenOf, Builtin.firstCells]
  · simp [Builtin.append_, run_underlying ht, sizeOf, typeInfo, hi, Builtin.lenOf, Builtin.firstCells, hnc, storeCells]
/-- append(v, u...): v is of the call's own, u is read -/
theorem run_app {t ty e : TypeId} {z : Value} {bytes : Nat} (ht : Tryz.prog.underlying t = some (.slice e)) (hi : ∃ i, Tryz.prog.info? e = some i ∧ i.zero = some z ∧ i.size = 1 ∧ i.bytes = bytes) (hz : z.cells.size = 1) (hby : bytes ≤ 1000)
    (w : World) (base : Nat) (v : Value) (n : Nat) (xs : List Value) (hown : w.ownsRow base e 1 v n xs) (u : Value) (ys : List Value) (hu : Sl w u ys) (h1 : ∀ y ∈ ys, y.oneCell' = true) (hn : n ≤ 1000000) (hm : ys.length ≤ 1000000) (hb : base ≤ w.heap.size) :
    ∃ A' c' w', (Builtin.append_ #[t, t] ty #[v, u]).run Tryz.prog w = .ok (.slice A' (n + ys.length) c') w' ∧ w'.ownsRow base e 1 (.slice A' (n + ys.length) c') (n + ys.length) (xs ++ ys) ∧
      w.grownBy w' v.ownBlock ∧ ((Value.slice A' (n + ys.length) c').ownBlock = v.ownBlock ∨ ∃ r, (Value.slice A' (n + ys.length) c').ownBlock = some r ∧ w.heap.size ≤ r) := by
  obtain ⟨i, hi, hz', hs, hb'⟩ := hi
  obtain ⟨A, m, cap, rfl, hl, hc1, hc2, hcells⟩ := hu
  cases A with
  | none =>
    have hm0 : ys = [] := by
      rcases Nat.eq_zero_or_pos m with h0 | h0
      · exact List.length_eq_zero_iff.1 (by omega)
      · obtain ⟨_, _, h, -⟩ := hcells h0; cases h
    subst hm0
    obtain ⟨A', c', rfl⟩ := owns_form hown
    have hm1 : m = 0 := hl
    subst hm1
    exact ⟨A', c', w, run_append_none w base t ty e i ht hi hs _ n xs cap hown, by simpa using hown, World.grownBy.refl w _, .inl rfl⟩
  | some a =>
    obtain ⟨v', w', hr, hown', hg, -, hw⟩ := run_append_own_at (P := Tryz.prog) w base t ty e i z 1 bytes ht hi hz' hs hb' hz (by omega) v n xs hown a m cap ys (by omega) (fun j y hy => by
        have hj := (List.getElem?_eq_some_iff.1 hy).1
        obtain ⟨b, off, ha, hr⟩ := hcells (by omega)
        rw [Option.some.inj ha]
        have h3 := hr j y hy
        rcases Nat.eq_zero_or_pos j with h0 | h0
        · subst h0; simpa [Addr.add] using h3
        · simpa [Addr.add, show j ≠ 0 by omega] using h3) h1 (by unfold maxLen; omega)
      (by have : (n + m) * bytes ≤ 2000000 * 1000 := Nat.mul_le_mul (by omega) hby
          omega) hb
    obtain ⟨A', c', rfl⟩ := owns_form hown'
    have hm1 : m = ys.length := by omega
    subst hm1
    refine ⟨A', c', w', hr, hown', hg, ?_⟩
    rcases hw with hw | hw
    · exact .inl hw
    · exact .inr ⟨_, hw, Nat.le_refl _⟩
end Go.Proofs
namespace Go.Proofs.Sm
abbrev Mat := List (List Int)
def ent (m : Mat) (i j : Nat) : Int := (m.getD i []).getD j 0
def Rect (m : Mat) (r n : Nat) : Prop := m.length = r ∧ ∀ x ∈ m, x.length = n
def addL (p q : List Int) (x : Int) : List Int := List.zipWith (fun a b => a + x * b) p q
def addR (m : Mat) (i k : Nat) (x : Int) : Mat := m.set i (addL (m.getD i []) (m.getD k []) x)
def swR (m : Mat) (i k : Nat) : Mat := (m.set i (m.getD k [])).set k (m.getD i [])
def addC (m : Mat) (j k : Nat) (x : Int) : Mat := m.map fun p => p.set j (p.getD j 0 + x * p.getD k 0)
def swC (m : Mat) (j k : Nat) : Mat := m.map fun p => (p.set j (p.getD k 0)).set k (p.getD j 0)
def sw (i k p : Nat) : Nat := if p = i then k else if p = k then i else p
theorem rect_row {m : Mat} {r n : Nat} (h : Rect m r n) {i : Nat} (hi : i < r) : (m.getD i []).length = n := by
  have hl : i < m.length := by rw [h.1]; exact hi
  rw [List.getD_eq_getElem?_getD, List.getElem?_eq_getElem hl]
  exact h.2 _ (List.getElem_mem hl)
theorem rect_of {m : Mat} {r n : Nat} (h1 : m.length = r) (h2 : ∀ i, i < r → (m.getD i []).length = n) : Rect m r n := by
  refine ⟨h1, fun x hx => ?_⟩
  obtain ⟨i, hi, rfl⟩ := List.getElem_of_mem hx
  have := h2 i (by omega)
  rwa [List.getD_eq_getElem?_getD, List.getElem?_eq_getElem hi] at this
theorem ent_out {m : Mat} {i j : Nat} (h : m.length ≤ i) : ent m i j = 0 := by
  simp [ent, List.getD_eq_getElem?_getD, List.getElem?_eq_none h]
theorem ent_right {m : Mat} {r n i j : Nat} (hm : Rect m r n) (h : n ≤ j) : ent m i j = 0 := by
  rcases Nat.lt_or_ge i r with hi | hi
  · have := rect_row hm hi
    unfold ent
    rw [List.getD_eq_getElem?_getD, List.getElem?_eq_none (by omega)]
    rfl
  · exact ent_out (by have := hm.1; omega)
theorem getD_set_ {α : Type} (l : List α) (i k : Nat) (x d : α) : (l.set i x).getD k d = if i = k ∧ i < l.length then x else l.getD k d := by
  simp only [List.getD_eq_getElem?_getD, List.getElem?_set]
  by_cases h : i = k
  · subst h
    by_cases h2 : i < l.length
    · simp [h2]
    · simp [h2]
  · simp [h]
theorem getD_map_ {α β : Type} (l : List α) (f : α → β) (k : Nat) (d : α) (e : β) (h : f d = e) : (l.map f).getD k e = f (l.getD k d) := by
  simp only [List.getD_eq_getElem?_getD, List.getElem?_map]
  cases l[k]? <;> simp [h]
theorem addL_length (p q : List Int) (x : Int) (h : p.length = q.length) : (addL p q x).length = p.length := by simp [addL, h]
theorem addL_getD (p q : List Int) (x : Int) (j : Nat) (h : p.length = q.length) : (addL p q x).getD j 0 = p.getD j 0 + x * q.getD j 0 := by
  simp only [addL, List.getD_eq_getElem?_getD, List.getElem?_zipWith]
  rcases Nat.lt_or_ge j p.length with hj | hj
  · simp [List.getElem?_eq_getElem hj, List.getElem?_eq_getElem (by omega : j < q.length)]
  · simp [List.getElem?_eq_none hj, List.getElem?_eq_none (by omega : q.length ≤ j)]
section
variable {m : Mat} {r n : Nat}
theorem rect_addR (h : Rect m r n) {i k : Nat} (hk : k < r) (x : Int) : Rect (addR m i k x) r n := by
  refine rect_of (by simp [addR, h.1]) fun p hp => ?_
  unfold addR
  rw [getD_set_]
  split
  · rename_i hc
    obtain ⟨rfl, h1⟩ := hc
    rw [addL_length _ _ _ (by rw [rect_row h hp, rect_row h hk])]
    exact rect_row h hp
  · exact rect_row h hp
theorem ent_addR (h : Rect m r n) {i k : Nat} (hi : i < r) (hk : k < r) (x : Int) (p j : Nat) : ent (addR m i k x) p j = if p = i then ent m i j + x * ent m k j else ent m p j := by
  unfold ent addR
  rw [getD_set_]
  by_cases e : p = i
  · subst e
    rw [if_pos ⟨rfl, by rw [h.1]; exact hi⟩, if_pos rfl, addL_getD _ _ _ _ (by rw [rect_row h hi, rect_row h hk])]
  · rw [if_neg (fun hh => e hh.1.symm), if_neg e]
theorem rect_swR (h : Rect m r n) {i k : Nat} (hi : i < r) (hk : k < r) : Rect (swR m i k) r n := by
  refine rect_of (by simp [swR, h.1]) fun p hp => ?_
  unfold swR
  rw [getD_set_, getD_set_]
  split
  · exact rect_row h hi
  · split
    · exact rect_row h hk
    · exact rect_row h hp
theorem ent_swR (h : Rect m r n) {i k : Nat} (hi : i < r) (hk : k < r) (p j : Nat) : ent (swR m i k) p j = ent m (sw i k p) j := by
  unfold ent swR sw
  rw [getD_set_, getD_set_]
  simp only [List.length_set, h.1]
  by_cases e : k = p
  · subst e
    rw [if_pos ⟨rfl, hk⟩]
    by_cases e2 : k = i
    · rw [if_pos e2, e2]
    · rw [if_neg e2, if_pos rfl]
  · rw [if_neg (fun hh => e hh.1)]
    by_cases e2 : i = p
    · rw [if_pos ⟨e2, hi⟩, if_pos e2.symm]
    · rw [if_neg (fun hh => e2 hh.1), if_neg (fun hh => e2 hh.symm), if_neg (fun hh => e hh.symm)]
theorem rect_addC (h : Rect m r n) (j k : Nat) (x : Int) : Rect (addC m j k x) r n := by
  refine ⟨by simp [addC, h.1], fun p hp => ?_⟩
  simp only [addC, List.mem_map] at hp
  obtain ⟨q, hq, rfl⟩ := hp
  simpa using h.2 q hq
theorem ent_addC (h : Rect m r n) {j : Nat} (hj : j < n) (k : Nat) (x : Int) (i q : Nat) : ent (addC m j k x) i q = if q = j then ent m i j + x * ent m i k else ent m i q := by
  unfold ent addC
  rcases Nat.lt_or_ge i r with hi | hi
  · rw [getD_map_ (d := []) (h := by simp), getD_set_, rect_row h hi]
    by_cases e : q = j
    · subst e; rw [if_pos ⟨rfl, hj⟩, if_pos rfl]
    · rw [if_neg (fun hh => e hh.1.symm), if_neg e]
  · have e : m.getD i [] = [] := by simp [List.getD_eq_getElem?_getD, List.getElem?_eq_none (by rw [h.1]; exact hi : m.length ≤ i)]
    rw [getD_map_ (d := []) (h := by simp), e]; simp
theorem rect_swC (h : Rect m r n) (j k : Nat) : Rect (swC m j k) r n := by
  refine ⟨by simp [swC, h.1], fun p hp => ?_⟩
  simp only [swC, List.mem_map] at hp
  obtain ⟨q, hq, rfl⟩ := hp
  simpa using h.2 q hq
theorem ent_swC (h : Rect m r n) {j k : Nat} (hj : j < n) (hk : k < n) (i q : Nat) : ent (swC m j k) i q = ent m i (sw j k q) := by
  unfold ent swC
  rcases Nat.lt_or_ge i r with hi | hi
  · rw [getD_map_ (d := []) (h := by simp), getD_set_, getD_set_, List.length_set, rect_row h hi]
    unfold sw
    by_cases e : k = q
    · subst e
      rw [if_pos ⟨rfl, hk⟩]
      by_cases e2 : k = j
      · rw [if_pos e2, e2]
      · rw [if_neg e2, if_pos rfl]
    · rw [if_neg (fun hh => e hh.1)]
      by_cases e2 : j = q
      · rw [if_pos ⟨e2, hj⟩, if_pos e2.symm]
      · rw [if_neg (fun hh => e2 hh.1), if_neg (fun hh => e2 hh.symm), if_neg (fun hh => e hh.symm)]
  · have e : m.getD i [] = [] := by simp [List.getD_eq_getElem?_getD, List.getElem?_eq_none (by rw [h.1]; exact hi : m.length ≤ i)]
    rw [getD_map_ (d := []) (h := by simp), e]; simp
theorem mat_ext {m' : Mat} (h : Rect m r n) (h' : Rect m' r n) (he : ∀ i j, i < r → j < n → ent m i j = ent m' i j) : m = m' := by
  apply List.ext_getElem (by rw [h.1, h'.1])
  intro i h1 h2
  have a := h.2 _ (List.getElem_mem h1)
  have b := h'.2 _ (List.getElem_mem h2)
  apply List.ext_getElem (by rw [a, b])
  intro j h3 h4
  have := he i j (by rw [← h.1]; exact h1) (by rw [← a]; exact h3)
  simpa [ent, List.getD_eq_getElem?_getD, List.getElem?_eq_getElem h1, List.getElem?_eq_getElem h2, List.getElem?_eq_getElem h3, List.getElem?_eq_getElem h4] using this
theorem addR_zero (h : Rect m r n) {i k : Nat} (hi : i < r) (hk : k < r) : addR m i k 0 = m :=
  mat_ext (rect_addR h hk 0) h fun p j _ _ => by
    rw [ent_addR h hi hk]
    split
    · rename_i e; subst e; omega
    · rfl
theorem addC_zero (h : Rect m r n) {j : Nat} (hj : j < n) (k : Nat) : addC m j k 0 = m :=
  mat_ext (rect_addC h _ _ 0) h fun p q _ _ => by
    rw [ent_addC h hj]
    split
    · rename_i e; subst e; omega
    · rfl
end
/-- the matrices, and how many places of the diagonal are done -/
structure S where
  a : Mat
  u : Mat
  v : Mat
  t : Nat
def S.addR (s : S) (i k : Nat) (x : Int) : S := { s with a := Sm.addR s.a i k x, u := Sm.addR s.u i k x }
def S.addC (s : S) (j k : Nat) (x : Int) : S := { s with a := Sm.addC s.a j k x, v := Sm.addC s.v j k x }
def S.swR (s : S) (i k : Nat) : S := { s with a := Sm.swR s.a i k, u := Sm.swR s.u i k }
def S.swC (s : S) (j k : Nat) : S := { s with a := Sm.swC s.a j k, v := Sm.swC s.v j k }
/-- f at lo, lo + 1, .., k - 1 in turn -/
def upto {α : Type} (f : α → Nat → α) (s : α) (lo k : Nat) : α := (List.range' lo (k - lo)).foldl f s
theorem upto_self {α : Type} (f : α → Nat → α) (s : α) (lo : Nat) : upto f s lo lo = s := by simp [upto]
theorem upto_succ {α : Type} (f : α → Nat → α) (s : α) {lo k : Nat} (h : lo ≤ k) : upto f s lo (k + 1) = f (upto f s lo k) k := by
  unfold upto
  rw [show k + 1 - lo = (k - lo) + 1 by omega, List.range'_concat, List.foldl_append]
  simp only [List.foldl_cons, List.foldl_nil, Nat.one_mul]
  rw [show lo + (k - lo) = k by omega]
theorem upto_inv {α : Type} (P : Nat → α → Prop) (f : α → Nat → α) {s : α} {lo : Nat} (h0 : P lo s) (hs : ∀ k s, lo ≤ k → P k s → P (k + 1) (f s k)) : ∀ k, lo ≤ k → P k (upto f s lo k) := by
  intro k hk
  obtain ⟨d, rfl⟩ : ∃ d, k = lo + d := ⟨k - lo, by omega⟩
  induction d with
  | zero => rw [Nat.add_zero, upto_self]; exact h0
  | succ d ih => rw [← Nat.add_assoc, upto_succ _ _ (by omega)]; exact hs _ _ (by omega) (ih (by omega))
def better (a : Mat) (i : Nat) (o : Option (Nat × Nat)) (j : Nat) : Option (Nat × Nat) :=
  match o with
  | none => if ent a i j = 0 then none else some (i, j)
  | some (x, y) => if ent a i j ≠ 0 ∧ (ent a i j).natAbs < (ent a x y).natAbs then some (i, j) else some (x, y)
def leastRow (a : Mat) (t n : Nat) (o : Option (Nat × Nat)) (i : Nat) : Option (Nat × Nat) := upto (better a i) o t n
def least (a : Mat) (t r n : Nat) : Option (Nat × Nat) := upto (leastRow a t n) none t r
def S.dn (s : S) (i : Nat) : S := s.addR i s.t (-((ent s.a i s.t).tdiv (ent s.a s.t s.t)))
def S.ac (s : S) (j : Nat) : S := s.addC j s.t (-((ent s.a s.t j).tdiv (ent s.a s.t s.t)))
def S.down (r : Nat) (s : S) : S := upto S.dn s (s.t + 1) r
def S.across (n : Nat) (s : S) : S := upto S.ac s (s.t + 1) n
def small (x : Int) : Bool := decide (-1000000000 ≤ x ∧ x ≤ 1000000000)
def fineM (m : Mat) : Bool := m.all fun p => p.all small
def S.fine (s : S) : Bool := fineM s.a && (fineM s.u && fineM s.v)
def S.restR (r : Nat) (s : S) : Bool := (List.range' (s.t + 1) (r - (s.t + 1))).any fun i => ent s.a i s.t != 0
def S.restC (n : Nat) (s : S) : Bool := (List.range' (s.t + 1) (n - (s.t + 1))).any fun j => ent s.a s.t j != 0
def S.odd (n : Nat) (s : S) (i : Nat) : Bool := (List.range' (s.t + 1) (n - (s.t + 1))).any fun j => (ent s.a i j).tmod (ent s.a s.t s.t) != 0
def S.spreadAt (r n : Nat) (s : S) : Option Nat := (List.range' (s.t + 1) (r - (s.t + 1))).find? (s.odd n)
def S.sign (s : S) : S := if ent s.a s.t s.t < 0 then s.addR s.t s.t (-2) else s
inductive Ph
  | choose
  | down
  | across
  | spread
  | sign
/-- what a step does: the next step and the state; no next step: the end; none: an entry is too great -/
def next (r n : Nat) : Ph → S → Option (Option Ph × S)
  | .choose, s => if s.t = r ∨ s.t = n then some (none, s) else match least s.a s.t r n with
    | none => some (none, s)
    | some (x, y) => some (some .down, (s.swR s.t x).swC s.t y)
  | .down, s => if (s.down r).fine then some (some .across, s.down r) else none
  | .across, s => if (s.across n).fine then some (some (if (s.across n).restR r || (s.across n).restC n then .choose else .spread), s.across n) else none
  | .spread, s => match s.spreadAt r n with
    | none => some (some .sign, s)
    | some i => if (s.addR s.t i 1).fine then some (some .across, s.addR s.t i 1) else none
  | .sign, s => some (some .choose, { s.sign with t := s.t + 1 })
/-- k steps at most; the outer none: not enough of them -/
def run (r n : Nat) : Nat → Ph → S → Option (Option S)
  | 0, _, _ => none
  | k + 1, p, s => match next r n p s with
    | none => some none
    | some (none, s') => some (some s')
    | some (some p', s') => run r n k p' s'
def idM (n : Nat) : Mat := (List.range n).map fun i => (List.range n).map fun j => if i = j then 1 else 0
def S.start (n : Nat) (l : Mat) : S := ⟨l, idM l.length, idM n, 0⟩
end Go.Proofs.Sm
