/- Words for memory: slices that read as lists; slices of the call's own that grow; append of one list to another of the call's own; Diagonal forms of matrices of integers, plainly: the operations and the steps of the procedure; Diagonal forms, plainly: what holds at each step, and that the procedure ends. -/
import Derived.WalkKit
import Derived.WalkSpells
import Derived.WalkLawsBesides
import Derived.Lib.Hide
import Derived.Deep.QuietTactic
import Derived.BigQuiet
import Derived.KernelRfl
import Derived.Shelf.Abstract
import Derived.Laws.AppendOwn
import Derived.Maps.AppendAt
import Derived.Maps.OwnSet
import Derived.Maps.OwnOps
import Derived.Deep.AppendSrc
import Derived.Test.YthfachbkcmifbaaProg
namespace Go.Proofs
open Go.RowKit
/-- The cells from b, off on hold vs. -/
def Row (w : World) (b off : Nat) (vs : List Value) : Prop := ∀ j v, vs[j]? = some v → w.cell? ⟨b, off + j, none⟩ = some v
/-- The slice value v reads as the list vs (elements of one cell). -/
def Sl (w : World) (v : Value) (vs : List Value) : Prop :=
  ∃ A n cap, v = .slice A n cap ∧ n = vs.length ∧ n ≤ cap ∧ cap ≤ maxLen ∧ (0 < n → ∃ b off, A = some ⟨b, off, none⟩ ∧ Row w b off vs)
def ints (xs : List Int) : List Value := xs.map (Value.int .i64)
def Fits (xs : List Int) : Prop := ∀ x ∈ xs, -9223372036854775808 ≤ x ∧ x ≤ 9223372036854775807
def IntsAt (w : World) (v : Value) (xs : List Int) : Prop := Sl w v (ints xs) ∧ Fits xs
section
variable {w w' : World} {v : Value} {vs : List Value}
theorem Row.lt {b off : Nat} (h : Row w b off vs) (hn : 0 < vs.length) : b < w.heap.size := by
  have := h 0 _ (List.getElem?_eq_getElem hn)
  exact World.block_lt_of_cell? w _ this
theorem Row.keep {b off : Nat} (h : Row w b off vs) (hk : ∀ p : Addr, p.block < w.heap.size → w'.cell? p = w.cell? p) : Row w' b off vs := by
  intro j u hu
  have := h j u hu
  rw [hk _ (World.block_lt_of_cell? w _ this)]
  exact this
theorem Sl.keep (h : Sl w v vs) (hk : ∀ p : Addr, p.block < w.heap.size → w'.cell? p = w.cell? p) : Sl w' v vs := by
  obtain ⟨A, n, cap, h1, h2, h3, h4, h5⟩ := h
  exact ⟨A, n, cap, h1, h2, h3, h4, fun hn => let ⟨b, off, ha, hr⟩ := h5 hn; ⟨b, off, ha, hr.keep hk⟩⟩
theorem Sl.below (h : Sl w v vs) (hb : Below w.heap.size w w') : Sl w' v vs := h.keep fun _ hp => hb.cell hp
theorem IntsAt.below {xs : List Int} (h : IntsAt w v xs) (hb : Below w.heap.size w w') : IntsAt w' v xs := ⟨h.1.below hb, h.2⟩
theorem Sl.drewN (h : Sl w v vs) (k : Nat) : Sl (w.drewN k) v vs := h
theorem IntsAt.drewN {xs : List Int} (h : IntsAt w v xs) (k : Nat) : IntsAt (w.drewN k) v xs := h
theorem IntsAt.open_ {xs : List Int} (h : IntsAt w v xs) : ∃ A cap, v = .slice A xs.length cap ∧ xs.length ≤ cap ∧ cap ≤ 9223372036854775807 ∧
    (0 < xs.length → ∃ b off, A = some ⟨b, off, none⟩ ∧ ∀ k, k < xs.length → w.cell? ⟨b, off + k, none⟩ = some (.int .i64 (xs.getD k 0))) := by
  obtain ⟨⟨A, n, cap, h1, h2, h3, h4, h5⟩, hf⟩ := h
  have hl : n = xs.length := by simpa [ints] using h2
  subst hl
  refine ⟨A, cap, h1, h3, by simpa [maxLen] using h4, fun hn => ?_⟩
  obtain ⟨b, off, ha, hr⟩ := h5 hn
  refine ⟨b, off, ha, fun k hk => hr k _ ?_⟩
  simp [ints, List.getElem?_map, List.getD_eq_getElem?_getD, List.getElem?_eq_getElem hk]
theorem Fits.at_ {xs : List Int} (h : Fits xs) (k : Nat) : -9223372036854775808 ≤ xs.getD k 0 ∧ xs.getD k 0 ≤ 9223372036854775807 := by
  rw [List.getD_eq_getElem?_getD]
  rcases Nat.lt_or_ge k xs.length with hk | hk
  · rw [List.getElem?_eq_getElem hk]; exact h _ (List.getElem_mem hk)
  · rw [List.getElem?_eq_none hk]; simp
end
/-- A slice whose elements (one cell each) read, by R, as the list xs. -/
def LAt {α : Type} (R : World → Value → α → Prop) (d : α) (w : World) (v : Value) (xs : List α) : Prop :=
  ∃ vs, Sl w v vs ∧ vs.length = xs.length ∧ ∀ i, i < xs.length → ∃ u, vs[i]? = some u ∧ R w u (xs.getD i d)
def Kept {α : Type} (R : World → Value → α → Prop) : Prop := ∀ w w' v x, (∀ k, k < w.heap.size → w'.heap[k]? = w.heap[k]?) → R w v x → R w' v x
theorem cell_blocks {w w' : World} (h : ∀ k, k < w.heap.size → w'.heap[k]? = w.heap[k]?) (p : Addr) (hp : p.block < w.heap.size) : w'.cell? p = w.cell? p := World.cell?_of_block (h p.block hp)
theorem kept_ints : Kept IntsAt := fun _ _ _ _ hk h => ⟨h.1.keep (cell_blocks hk), h.2⟩
theorem kept_L {α : Type} {R : World → Value → α → Prop} {d : α} (hR : Kept R) : Kept (LAt R d) := fun _w _w' _v _xs hk ⟨vs, h1, h2, h3⟩ =>
  ⟨vs, h1.keep (cell_blocks hk), h2, fun i hi => let ⟨u, hu, hr⟩ := h3 i hi; ⟨u, hu, hR _ _ _ _ hk hr⟩⟩
abbrev Tab := LAt IntsAt []
theorem kept_tab : Kept Tab := kept_L kept_ints
theorem Kept.below {α : Type} {R : World → Value → α → Prop} (hR : Kept R) {w w' : World} {v : Value} {x : α} (h : R w v x) (hb : Below w.heap.size w w') : R w' v x := hR _ _ _ _ hb.block h
/-- The slice opened: an address where there is an element. -/
theorem LAt.open_ {α : Type} {R : World → Value → α → Prop} {d : α} {w : World} {v : Value} {xs : List α} (h : LAt R d w v xs) : ∃ A cap, v = .slice A xs.length cap ∧ xs.length ≤ cap ∧ cap ≤ 9223372036854775807 ∧
    (0 < xs.length → ∃ b off, A = some ⟨b, off, none⟩ ∧ ∀ k, k < xs.length → ∃ u, w.cell? ⟨b, off + k, none⟩ = some u ∧ R w u (xs.getD k d)) := by
  obtain ⟨vs, ⟨A, n, cap, h1, h2, h3, h4, h5⟩, hl, he⟩ := h
  have hn : n = xs.length := h2.trans hl
  subst hn
  refine ⟨A, cap, h1, h3, by simpa [maxLen] using h4, fun hn => ?_⟩
  obtain ⟨b, off, ha, hr⟩ := h5 hn
  refine ⟨b, off, ha, fun k hk => ?_⟩
  obtain ⟨u, hu, hru⟩ := he k hk
  exact ⟨u, hr k u hu, hru⟩
theorem ret_bool {a b : Bool} (h : a = b) : Ending.returned (.bool a) = Ending.returned (.bool b) := by rw [h]
theorem ret_int {k : IntKind} {a b : Int} (h : a = b) : Ending.returned (.int k a) = Ending.returned (.int k b) := by rw [h]
theorem below_drewN {B : Nat} {a w : World} (h : Below B a w) (n : Nat) : Below B a (w.drewN n) := ⟨h.os, h.tape, h.output, h.size, h.block⟩
theorem ints_app (a b : List Int) : ints (a ++ b) = ints a ++ ints b := by simp [ints]
theorem length_ints (a : List Int) : (ints a).length = a.length := by simp [ints]
theorem getD_ext {α : Type} {d : α} {A B : List α} (hl : A.length = B.length) (h : ∀ k, k < A.length → A.getD k d = B.getD k d) : A = B := by
  apply List.ext_getElem hl
  intro i h1 h2
  have := h i h1
  simpa [List.getD_eq_getElem?_getD, h1, h2] using this
theorem getD_ne {α : Type} {d : α} {A B : List α} {k : Nat} (h : A.getD k d ≠ B.getD k d) : A ≠ B := fun e => h (by rw [e])
theorem ex_drewN {w : World} {n m : Nat} : ∃ q, (w.drewN n).drewN m = w.drewN q := ⟨_, World.drewN_drewN _ _ _⟩
theorem all_succ {p : Nat → Prop} {k : Nat} (h : ∀ j, j < k → p j) (hk : p k) : ∀ j, j < k + 1 → p j := fun j hj => by
  rcases Nat.lt_or_ge j k with h1 | h1
  · exact h j h1
  · obtain rfl : j = k := by omega
    exact hk
theorem intsAt_nil {w : World} : IntsAt w (.slice none 0 0) [] := ⟨⟨none, 0, 0, rfl, rfl, Nat.le_refl _, by simp [maxLen], fun h => absurd h (by simp)⟩, fun x hx => by cases hx⟩
theorem tab_nil {w : World} : Tab w (.slice none 0 0) [] := ⟨[], ⟨none, 0, 0, rfl, rfl, Nat.le_refl _, by simp [maxLen], fun h => absurd h (by omega)⟩, rfl, fun i hi => absurd hi (by simp)⟩
section
variable {ops : Array Oper} {rest : List Oper} {o : Oper} {a : Act} {w w' : World} {Q : Exit → Act → World → Prop} {v : Value}
theorem wpList_sel (s : Nat) {op : Op} {t : TypeId} {p : String} {af : Array Edge} {g : Option (Nat × Bool)} (h : wpList Try.prog ops Q (⟨some s, op, t, p, af, g⟩ :: rest) a w) : wpList Try.prog ops Q (⟨some s, op, t, p, af, g⟩ :: rest) a w := h
theorem wpList_val (hg : o.guard = none) (hrun : (execOp a.eval o).run Try.prog w = .ok (.value v) w') (h : wpList Try.prog ops Q rest (a.put o.dst v) w') : wpList Try.prog ops Q (o :: rest) a w :=
  wpList_plain hg fun _ hK => by
    unfold Oper.wp
    rw [hrun]
    exact hK _ _ h
theorem r_app (s x : Operand) (t : TypeId) {sv xv v' : Value} (ho : o.op = .call { callee := .builtin .append, args := #[s, x], argTypes := #[t, t] }) (hs : a.eval s = sv) (hx : a.eval x = xv)
    (hr : (Builtin.append_ #[t, t] o.type #[sv, xv]).run Try.prog w = .ok v' w') : (execOp a.eval o).run Try.prog w = .ok (.value v') w' := by
  unfold execOp
  simp only [ho, resolve, invoke, builtin, Sem.run_bind, Sem.run_pure, Result.andThen_ok, List.map_toArray, List.map_cons, List.map_nil, hs, hx, hr]
end
theorem owns_block {w : World} {base e n : Nat} {v : Value} {xs : List Value} (h : w.ownsRow base e 1 v n xs) : ∀ r, v.ownBlock = some r → base ≤ r ∧ ∃ C, w.heap[r]? = some (.cells C e (0, 0)) := fun r hr => by
  rcases h.2 with ⟨rfl, -⟩ | ⟨g, cap, cur, rfl, hb, hg, -⟩
  · cases hr
  · have : g = r := Option.some.inj hr
    subst this
    exact ⟨hb, cur, hg⟩
theorem owns_lt {w : World} {base e n : Nat} {v : Value} {xs : List Value} (h : w.ownsRow base e 1 v n xs) {r : Nat} (hr : v.ownBlock = some r) : r < w.heap.size := by
  obtain ⟨-, C, hC⟩ := owns_block h r hr
  exact (Array.getElem?_eq_some_iff.1 hC).1
theorem owns_keep {w w' : World} {base e size n : Nat} {v : Value} {xs : List Value} (h : w.ownsRow base e size v n xs) (hb : ∀ r, v.ownBlock = some r → w'.heap[r]? = w.heap[r]?) : w'.ownsRow base e size v n xs := by
  obtain ⟨h1, h2⟩ := h
  refine ⟨h1, ?_⟩
  rcases h2 with h2 | ⟨g, cap, cur, a, b, hg, r⟩
  · exact .inl h2
  · exact .inr ⟨g, cap, cur, a, b, (hb g (by rw [a]; rfl)).trans hg, r⟩
theorem owns_form {w : World} {base e n : Nat} {v : Value} {xs : List Value} (h : w.ownsRow base e 1 v n xs) : ∃ A c, v = .slice A n c := by
  rcases h.2 with ⟨rfl, rfl⟩ | ⟨g, cap, cur, rfl, -⟩
  · exact ⟨none, 0, rfl⟩
  · exact ⟨_, _, rfl⟩
theorem owns_below {w w' : World} {base e size n : Nat} {v : Value} {xs : List Value} (h : w.ownsRow base e size v n xs) (hb : Below w.heap.size w w') : w'.ownsRow base e size v n xs := by
  obtain ⟨h1, h2⟩ := h
  refine ⟨h1, ?_⟩
  rcases h2 with h2 | ⟨g, cap, cur, a, b, hg, r⟩
  · exact .inl h2
  · exact .inr ⟨g, cap, cur, a, b, (hb.block _ (Array.getElem?_eq_some_iff.1 hg).1).trans hg, r⟩
theorem owns_base {w : World} {base base' e size n : Nat} {v : Value} {xs : List Value} (h : w.ownsRow base e size v n xs) (hb : base' ≤ base) : w.ownsRow base' e size v n xs := by
  obtain ⟨h1, h2⟩ := h
  refine ⟨h1, ?_⟩
  rcases h2 with h2 | ⟨g, cap, cur, a, b, r⟩
  · exact .inl h2
  · exact .inr ⟨g, cap, cur, a, Nat.le_trans hb b, r⟩
theorem sl_of_owns {w : World} {base e n : Nat} {v : Value} {xs : List Value} (h : w.ownsRow base e 1 v n xs) : Sl w v xs := by
  obtain ⟨hl, h⟩ := h
  rcases h with ⟨rfl, rfl⟩ | ⟨g, cap, cur, rfl, hbg, hg, hnc, hcm, hcs, htake⟩
  · exact ⟨none, 0, 0, rfl, by simpa using hl.symm, Nat.le_refl _, by simp [maxLen], fun h => absurd h (by omega)⟩
  · refine ⟨_, n, cap, rfl, by omega, hnc, hcm, fun _ => ⟨g, 0, rfl, fun j u hu => ?_⟩⟩
    rw [cell_of_row _ _ _ _ _ _ hg, Nat.zero_add]
    rw [← htake, List.getElem?_take] at hu
    split at hu
    · simpa using hu
    · cases hu
/-- v is a slice of numbers of the call's own -/
abbrev OwnI (base : Nat) (w : World) (v : Value) (xs : List Int) : Prop := w.ownsRow base 3 1 v xs.length (ints xs)
theorem OwnI.ints {base : Nat} {w : World} {v : Value} {xs : List Int} (h : OwnI base w v xs) (hf : Fits xs) : IntsAt w v xs := ⟨sl_of_owns h, hf⟩
theorem info3p : ∃ i, Try.prog.info? 3 = some i ∧ i.zero = some (.int .i64 0) ∧ i.size = 1 ∧ i.bytes = 8 := by
  have h : (Try.prog.info? 3).map (fun i => (i.zero, i.size, i.bytes)) = some (some (.int .i64 0), 1, 8) := by kernel_rfl
  cases hq : Try.prog.info? 3 with
  | none => simp [hq] at h
  | some i => simp [hq] at h; exact ⟨i, rfl, h⟩
theorem info24p : ∃ i, Try.prog.info? 25 = some i ∧ i.zero = some (.slice none 0 0) ∧ i.size = 1 ∧ i.bytes = 24 := by
  have h : (Try.prog.info? 25).map (fun i => (i.zero, i.size, i.bytes)) = some (some (.slice none 0 0), 1, 24) := by kernel_rfl
  cases hq : Try.prog.info? 25 with
  | none => simp [hq] at h
  | some i => simp [hq] at h; exact ⟨i, rfl, h⟩
/-- append of one element, which lies in a block just laid -/
theorem run_push {t ty e : TypeId} {z : Value} {bytes : Nat} (ht : Try.prog.underlying t = some (.slice e)) (hi : ∃ i, Try.prog.info? e = some i ∧ i.zero = some z ∧ i.size = 1 ∧ i.bytes = bytes) (hz : z.cells.size = 1) (hby : bytes ≤ 1000)
    (w : World) (base : Nat) (v : Value) (n : Nat) (xs : List Value) (hown : w.ownsRow base e 1 v n xs) (x : Value) (h1 : x.oneCell' = true) (hn : n ≤ 10000000) (hb : base ≤ w.heap.size) :
    ∃ A' c' w', (Builtin.append_ #[t, t] ty #[v, .slice (some ⟨w.heap.size, 0, none⟩) 1 1]).run Try.prog (w.alloc (.cells #[x] e)) = .ok (.slice A' (n + 1) c') w' ∧ w'.ownsRow base e 1 (.slice A' (n + 1) c') (n + 1) (xs ++ [x]) ∧
      w.grownBy w' v.ownBlock ∧ ((Value.slice A' (n + 1) c').ownBlock = v.ownBlock ∨ ∃ r, (Value.slice A' (n + 1) c').ownBlock = some r ∧ w.heap.size ≤ r) := by
  obtain ⟨i, hi, hz', hs, hb'⟩ := hi
  have hal : Below w.heap.size w (w.alloc (.cells #[x] e)) := (Below.refl _ _).alloc (Nat.le_refl _) _
  obtain ⟨v', w', hr, hown', hg, -, hw⟩ := run_append_own_at (P := Try.prog) (w.alloc (.cells #[x] e)) base t ty e i z 1 bytes ht hi hz' hs hb' hz (by omega) v n xs (owns_below hown hal) ⟨w.heap.size, 0, none⟩ 1 1 [x] rfl (cell_one_new _ _ _) (fun u hu => by simp at hu; rw [hu]; exact h1) (by unfold maxLen; omega)
    (by have : (n + 1) * bytes ≤ 10000001 * 1000 := Nat.mul_le_mul (by omega) hby
        omega) (by have := hal.size; omega)
  obtain ⟨A', c', rfl⟩ := owns_form hown'
  refine ⟨A', c', w', hr, hown', ?_, ?_⟩
  · have h2 := hg
    exact ⟨h2.os, h2.tape, h2.output, Nat.le_trans hal.size h2.size, fun k hk hne => (h2.block k (Nat.lt_of_lt_of_le hk hal.size) hne).trans (hal.block k hk)⟩
  · rcases hw with hw | hw
    · exact .inl hw
    · exact .inr ⟨_, hw, by simp⟩
theorem push_int (ty : TypeId) (t : TypeId) (ht : Try.prog.underlying t = some (.slice 3)) (w : World) (base : Nat) (v : Value) (xs : List Int) (h : OwnI base w v xs) (z : Int) (hx : xs.length ≤ 10000000) (hb : base ≤ w.heap.size) :
    ∃ A' c' w', (Builtin.append_ #[t, t] ty #[v, .slice (some ⟨w.heap.size, 0, none⟩) 1 1]).run Try.prog (w.alloc (.cells #[.int .i64 z] 3)) = .ok (.slice A' (xs.length + 1) c') w' ∧ OwnI base w' (.slice A' (xs.length + 1) c') (xs ++ [z]) ∧
      w.grownBy w' v.ownBlock ∧ ((Value.slice A' (xs.length + 1) c').ownBlock = v.ownBlock ∨ ∃ r, (Value.slice A' (xs.length + 1) c').ownBlock = some r ∧ w.heap.size ≤ r) := by
  obtain ⟨A', c', w', hr, ho, hg, hw⟩ := run_push (ty := ty) ht info3p rfl (by omega) w base v xs.length (ints xs) h (.int .i64 z) rfl hx hb
  refine ⟨A', c', w', hr, ?_, hg, hw⟩
  show w'.ownsRow base 3 1 _ (xs ++ [z]).length (ints (xs ++ [z]))
  rw [ints_app, List.length_append]
  exact ho
/-- the blocks of F are as they were -/
def Ag (F : Nat → Prop) (w w' : World) : Prop := ∀ k, F k → w'.heap[k]? = w.heap[k]?
theorem Ag.refl (F : Nat → Prop) (w : World) : Ag F w w := fun _ _ => rfl
theorem Ag.trans {F : Nat → Prop} {a b c : World} (h : Ag F a b) (k : Ag F b c) : Ag F a c := fun i hi => (k i hi).trans (h i hi)
theorem Ag.grown {F : Nat → Prop} {w w' : World} {row : Option Nat} (hg : w.grownBy w' row) (hF : ∀ k, F k → k < w.heap.size ∧ row ≠ some k) : Ag F w w' := fun k hk => hg.block k (hF k hk).1 (fun e => (hF k hk).2 e.symm)
theorem Ag.below {F : Nat → Prop} {w w' : World} (hb : Below w.heap.size w w') (hF : ∀ k, F k → k < w.heap.size) : Ag F w w' := fun k hk => hb.block k (hF k hk)
/-- u reads as x by the blocks of F -/
def IntsF (F : Nat → Prop) (w : World) (u : Value) (x : List Int) : Prop := ∀ w', Ag F w w' → IntsAt w' u x
theorem IntsF.at_ {F : Nat → Prop} {w : World} {u : Value} {x : List Int} (h : IntsF F w u x) : IntsAt w u x := h w (Ag.refl _ _)
theorem IntsF.keep {F : Nat → Prop} {w w' : World} {u : Value} {x : List Int} (h : IntsF F w u x) (ha : Ag F w w') : IntsF F w' u x := fun w'' h' => h w'' (ha.trans h')
theorem IntsF.mono {F G : Nat → Prop} {w : World} {u : Value} {x : List Int} (h : IntsF F w u x) (hg : ∀ k, F k → G k) : IntsF G w u x := fun w' h' => h w' fun k hk => h' k (hg k hk)
/-- the values vals read as the lists xs, by the blocks of F -/
def RowsF (F : Nat → Prop) (w : World) (vals : List Value) (xs : List (List Int)) : Prop := vals.length = xs.length ∧ ∀ j, j < xs.length → ∃ u, vals[j]? = some u ∧ IntsF F w u (xs.getD j [])
theorem RowsF.keep {F G : Nat → Prop} {w w' : World} {vals : List Value} {xs : List (List Int)} (h : RowsF F w vals xs) (ha : Ag F w w') (hg : ∀ k, F k → G k) : RowsF G w' vals xs :=
  ⟨h.1, fun j hj => let ⟨u, hu, hx⟩ := h.2 j hj; ⟨u, hu, (hx.keep ha).mono hg⟩⟩
theorem RowsF.nil (F : Nat → Prop) (w : World) : RowsF F w [] [] := ⟨rfl, fun j hj => absurd hj (by simp)⟩
/-- v is a slice of rows of the call's own; its rows lie in F -/
def OwnT (e : TypeId) (base : Nat) (F : Nat → Prop) (w : World) (v : Value) (xs : List (List Int)) : Prop := ∃ vals, w.ownsRow base e 1 v xs.length vals ∧ RowsF F w vals xs
theorem OwnT.tab {e : TypeId} {base : Nat} {F : Nat → Prop} {w : World} {v : Value} {xs : List (List Int)} (h : OwnT e base F w v xs) : Tab w v xs := by
  obtain ⟨vals, h1, h2⟩ := h
  exact ⟨vals, sl_of_owns h1, h2.1, fun i hi => let ⟨u, hu, hx⟩ := h2.2 i hi; ⟨u, hu, hx.at_⟩⟩
theorem OwnT.form {e : TypeId} {base : Nat} {F : Nat → Prop} {w : World} {v : Value} {xs : List (List Int)} (h : OwnT e base F w v xs) : ∃ A c, v = .slice A xs.length c := let ⟨_, h1, _⟩ := h; owns_form h1
theorem OwnT.keep {e : TypeId} {base : Nat} {F G : Nat → Prop} {w w' : World} {v : Value} {xs : List (List Int)} (h : OwnT e base F w v xs) (hv : ∀ r, v.ownBlock = some r → w'.heap[r]? = w.heap[r]?) (ha : Ag F w w') (hg : ∀ k, F k → G k) : OwnT e base G w' v xs :=
  let ⟨vals, h1, h2⟩ := h; ⟨vals, owns_keep h1 hv, h2.keep ha hg⟩
theorem OwnT.below {e : TypeId} {base : Nat} {F : Nat → Prop} {w w' : World} {v : Value} {xs : List (List Int)} (h : OwnT e base F w v xs) (hb : Below w.heap.size w w') (hF : ∀ k, F k → k < w.heap.size) : OwnT e base F w' v xs :=
  let ⟨_vals, h1, _h2⟩ := h; h.keep (fun _r hr => hb.block _ (owns_lt h1 hr)) (Ag.below hb hF) fun _ h => h
end Go.Proofs
namespace Go.Proofs
open Go.RowKit Go.Shelf Go.Maps
theorem run_append_none (w : World) (base : Nat) (t ty e : TypeId) (i : TypeInfo) (ht : Try.prog.underlying t = some (.slice e)) (hi : Try.prog.info? e = some i) (_hs : i.size = 1)
    (v : Value) (n : Nat) (xs : List Value) (cap : Nat) (hown : w.ownsRow base e 1 v n xs) : (Builtin.append_ #[t, t] ty #[v, .slice none 0 cap]).run Try.prog w = .ok v w := by
  rcases hown.2 with ⟨rfl, rfl⟩ | ⟨g, cap', cur, rfl, -, hg, hnc, hcm, hcs, htake⟩
  · simp [Builtin.append_, run_underlying ht, sizeOf, typeInfo, hi, Builtin.lenOf, Builtin.firstCells]
  · simp [Builtin.append_, run_underlying ht, sizeOf, typeInfo, hi, Builtin.lenOf, Builtin.firstCells, hnc, storeCells]
/-- append(v, u...): v is of the call's own, u is read -/
theorem run_app {t ty e : TypeId} {z : Value} {bytes : Nat} (ht : Try.prog.underlying t = some (.slice e)) (hi : ∃ i, Try.prog.info? e = some i ∧ i.zero = some z ∧ i.size = 1 ∧ i.bytes = bytes) (hz : z.cells.size = 1) (hby : bytes ≤ 1000)
    (w : World) (base : Nat) (v : Value) (n : Nat) (xs : List Value) (hown : w.ownsRow base e 1 v n xs) (u : Value) (ys : List Value) (hu : Sl w u ys) (h1 : ∀ y ∈ ys, y.oneCell' = true) (hn : n ≤ 1000000) (hm : ys.length ≤ 1000000) (hb : base ≤ w.heap.size) :
    ∃ A' c' w', (Builtin.append_ #[t, t] ty #[v, u]).run Try.prog w = .ok (.slice A' (n + ys.length) c') w' ∧ w'.ownsRow base e 1 (.slice A' (n + ys.length) c') (n + ys.length) (xs ++ ys) ∧
      w.grownBy w' v.ownBlock ∧ ((Value.slice A' (n + ys.length) c').ownBlock = v.ownBlock ∨ ∃ r, (Value.slice A' (n + ys.length) c').ownBlock = some r ∧ w.heap.size ≤ r) := by
  obtain ⟨i, hi, hz', hs, hb'⟩ := hi
  obtain ⟨A, m, cap, rfl, hl, hc1, hc2, hcells⟩ := hu
  cases A with
  | none =>
    have hm0 : ys = [] := by
      rcases Nat.eq_zero_or_pos m with h0 | h0
      · exact List.length_eq_zero_iff.1 (by omega)
      · obtain ⟨_, _, h, -⟩ := hcells h0; cases h
    subst hm0
    obtain ⟨A', c', rfl⟩ := owns_form hown
    have hm1 : m = 0 := hl
    subst hm1
    exact ⟨A', c', w, run_append_none w base t ty e i ht hi hs _ n xs cap hown, by simpa using hown, World.grownBy.refl w _, .inl rfl⟩
  | some a =>
    obtain ⟨v', w', hr, hown', hg, -, hw⟩ := run_append_own_at (P := Try.prog) w base t ty e i z 1 bytes ht hi hz' hs hb' hz (by omega) v n xs hown a m cap ys (by omega) (fun j y hy => by
        have hj := (List.getElem?_eq_some_iff.1 hy).1
        obtain ⟨b, off, ha, hr⟩ := hcells (by omega)
        rw [Option.some.inj ha]
        have h3 := hr j y hy
        rcases Nat.eq_zero_or_pos j with h0 | h0
        · subst h0; simpa [Addr.add] using h3
        · simpa [Addr.add, show j ≠ 0 by omega] using h3) h1 (by unfold maxLen; omega)
      (by have : (n + m) * bytes ≤ 2000000 * 1000 := Nat.mul_le_mul (by omega) hby
          omega) hb
    obtain ⟨A', c', rfl⟩ := owns_form hown'
    have hm1 : m = ys.length := by omega
    subst hm1
    refine ⟨A', c', w', hr, hown', hg, ?_⟩
    rcases hw with hw | hw
    · exact .inl hw
    · exact .inr ⟨_, hw, Nat.le_refl _⟩
end Go.Proofs
namespace Go.Proofs.Sm
abbrev Mat := List (List Int)
def ent (m : Mat) (i j : Nat) : Int := (m.getD i []).getD j 0
def Rect (m : Mat) (r n : Nat) : Prop := m.length = r ∧ ∀ x ∈ m, x.length = n
def addL (p q : List Int) (x : Int) : List Int := List.zipWith (fun a b => a + x * b) p q
def addR (m : Mat) (i k : Nat) (x : Int) : Mat := m.set i (addL (m.getD i []) (m.getD k []) x)
def swR (m : Mat) (i k : Nat) : Mat := (m.set i (m.getD k [])).set k (m.getD i [])
def addC (m : Mat) (j k : Nat) (x : Int) : Mat := m.map fun p => p.set j (p.getD j 0 + x * p.getD k 0)
def swC (m : Mat) (j k : Nat) : Mat := m.map fun p => (p.set j (p.getD k 0)).set k (p.getD j 0)
def sw (i k p : Nat) : Nat := if p = i then k else if p = k then i else p
theorem rect_row {m : Mat} {r n : Nat} (h : Rect m r n) {i : Nat} (hi : i < r) : (m.getD i []).length = n := by
  have hl : i < m.length := by rw [h.1]; exact hi
  rw [List.getD_eq_getElem?_getD, List.getElem?_eq_getElem hl]
  exact h.2 _ (List.getElem_mem hl)
theorem rect_of {m : Mat} {r n : Nat} (h1 : m.length = r) (h2 : ∀ i, i < r → (m.getD i []).length = n) : Rect m r n := by
  refine ⟨h1, fun x hx => ?_⟩
  obtain ⟨i, hi, rfl⟩ := List.getElem_of_mem hx
  have := h2 i (by omega)
  rwa [List.getD_eq_getElem?_getD, List.getElem?_eq_getElem hi] at this
theorem ent_out {m : Mat} {i j : Nat} (h : m.length ≤ i) : ent m i j = 0 := by
  simp [ent, List.getD_eq_getElem?_getD, List.getElem?_eq_none h]
theorem ent_right {m : Mat} {r n i j : Nat} (hm : Rect m r n) (h : n ≤ j) : ent m i j = 0 := by
  rcases Nat.lt_or_ge i r with hi | hi
  · have := rect_row hm hi
    unfold ent
    rw [List.getD_eq_getElem?_getD, List.getElem?_eq_none (by omega)]
    rfl
  · exact ent_out (by have := hm.1; omega)
theorem getD_set_ {α : Type} (l : List α) (i k : Nat) (x d : α) : (l.set i x).getD k d = if i = k ∧ i < l.length then x else l.getD k d := by
  simp only [List.getD_eq_getElem?_getD, List.getElem?_set]
  by_cases h : i = k
  · subst h
    by_cases h2 : i < l.length
    · simp [h2]
    · simp [h2]
  · simp [h]
theorem getD_map_ {α β : Type} (l : List α) (f : α → β) (k : Nat) (d : α) (e : β) (h : f d = e) : (l.map f).getD k e = f (l.getD k d) := by
  simp only [List.getD_eq_getElem?_getD, List.getElem?_map]
  cases l[k]? <;> simp [h]
theorem addL_length (p q : List Int) (x : Int) (h : p.length = q.length) : (addL p q x).length = p.length := by simp [addL, h]
theorem addL_getD (p q : List Int) (x : Int) (j : Nat) (h : p.length = q.length) : (addL p q x).getD j 0 = p.getD j 0 + x * q.getD j 0 := by
  simp only [addL, List.getD_eq_getElem?_getD, List.getElem?_zipWith]
  rcases Nat.lt_or_ge j p.length with hj | hj
  · simp [List.getElem?_eq_getElem hj, List.getElem?_eq_getElem (by omega : j < q.length)]
  · simp [List.getElem?_eq_none hj, List.getElem?_eq_none (by omega : q.length ≤ j)]
section
variable {m : Mat} {r n : Nat}
theorem rect_addR (h : Rect m r n) {i k : Nat} (hk : k < r) (x : Int) : Rect (addR m i k x) r n := by
  refine rect_of (by simp [addR, h.1]) fun p hp => ?_
  unfold addR
  rw [getD_set_]
  split
  · rename_i hc
    obtain ⟨rfl, h1⟩ := hc
    rw [addL_length _ _ _ (by rw [rect_row h hp, rect_row h hk])]
    exact rect_row h hp
  · exact rect_row h hp
theorem ent_addR (h : Rect m r n) {i k : Nat} (hi : i < r) (hk : k < r) (x : Int) (p j : Nat) : ent (addR m i k x) p j = if p = i then ent m i j + x * ent m k j else ent m p j := by
  unfold ent addR
  rw [getD_set_]
  by_cases e : p = i
  · subst e
    rw [if_pos ⟨rfl, by rw [h.1]; exact hi⟩, if_pos rfl, addL_getD _ _ _ _ (by rw [rect_row h hi, rect_row h hk])]
  · rw [if_neg (fun hh => e hh.1.symm), if_neg e]
theorem rect_swR (h : Rect m r n) {i k : Nat} (hi : i < r) (hk : k < r) : Rect (swR m i k) r n := by
  refine rect_of (by simp [swR, h.1]) fun p hp => ?_
  unfold swR
  rw [getD_set_, getD_set_]
  split
  · exact rect_row h hi
  · split
    · exact rect_row h hk
    · exact rect_row h hp
theorem ent_swR (h : Rect m r n) {i k : Nat} (hi : i < r) (hk : k < r) (p j : Nat) : ent (swR m i k) p j = ent m (sw i k p) j := by
  unfold ent swR sw
  rw [getD_set_, getD_set_]
  simp only [List.length_set, h.1]
  by_cases e : k = p
  · subst e
    rw [if_pos ⟨rfl, hk⟩]
    by_cases e2 : k = i
    · rw [if_pos e2, e2]
    · rw [if_neg e2, if_pos rfl]
  · rw [if_neg (fun hh => e hh.1)]
    by_cases e2 : i = p
    · rw [if_pos ⟨e2, hi⟩, if_pos e2.symm]
    · rw [if_neg (fun hh => e2 hh.1), if_neg (fun hh => e2 hh.symm), if_neg (fun hh => e hh.symm)]
theorem rect_addC (h : Rect m r n) (j k : Nat) (x : Int) : Rect (addC m j k x) r n := by
  refine ⟨by simp [addC, h.1], fun p hp => ?_⟩
  simp only [addC, List.mem_map] at hp
  obtain ⟨q, hq, rfl⟩ := hp
  simpa using h.2 q hq
theorem ent_addC (h : Rect m r n) {j : Nat} (hj : j < n) (k : Nat) (x : Int) (i q : Nat) : ent (addC m j k x) i q = if q = j then ent m i j + x * ent m i k else ent m i q := by
  unfold ent addC
  rcases Nat.lt_or_ge i r with hi | hi
  · rw [getD_map_ (d := []) (h := by simp), getD_set_, rect_row h hi]
    by_cases e : q = j
    · subst e; rw [if_pos ⟨rfl, hj⟩, if_pos rfl]
    · rw [if_neg (fun hh => e hh.1.symm), if_neg e]
  · have e : m.getD i [] = [] := by simp [List.getD_eq_getElem?_getD, List.getElem?_eq_none (by rw [h.1]; exact hi : m.length ≤ i)]
    rw [getD_map_ (d := []) (h := by simp), e]; simp
theorem rect_swC (h : Rect m r n) (j k : Nat) : Rect (swC m j k) r n := by
  refine ⟨by simp [swC, h.1], fun p hp => ?_⟩
  simp only [swC, List.mem_map] at hp
  obtain ⟨q, hq, rfl⟩ := hp
  simpa using h.2 q hq
theorem ent_swC (h : Rect m r n) {j k : Nat} (hj : j < n) (hk : k < n) (i q : Nat) : ent (swC m j k) i q = ent m i (sw j k q) := by
  unfold ent swC
  rcases Nat.lt_or_ge i r with hi | hi
  · rw [getD_map_ (d := []) (h := by simp), getD_set_, getD_set_, List.length_set, rect_row h hi]
    unfold sw
    by_cases e : k = q
    · subst e
      rw [if_pos ⟨rfl, hk⟩]
      by_cases e2 : k = j
      · rw [if_pos e2, e2]
      · rw [if_neg e2, if_pos rfl]
    · rw [if_neg (fun hh => e hh.1)]
      by_cases e2 : j = q
      · rw [if_pos ⟨e2, hj⟩, if_pos e2.symm]
      · rw [if_neg (fun hh => e2 hh.1), if_neg (fun hh => e2 hh.symm), if_neg (fun hh => e hh.symm)]
  · have e : m.getD i [] = [] := by simp [List.getD_eq_getElem?_getD, List.getElem?_eq_none (by rw [h.1]; exact hi : m.length ≤ i)]
    rw [getD_map_ (d := []) (h := by simp), e]; simp
theorem mat_ext {m' : Mat} (h : Rect m r n) (h' : Rect m' r n) (he : ∀ i j, i < r → j < n → ent m i j = ent m' i j) : m = m' := by
  apply List.ext_getElem (by rw [h.1, h'.1])
  intro i h1 h2
  have a := h.2 _ (List.getElem_mem h1)
  have b := h'.2 _ (List.getElem_mem h2)
  apply List.ext_getElem (by rw [a, b])
  intro j h3 h4
  have := he i j (by rw [← h.1]; exact h1) (by rw [← a]; exact h3)
  simpa [ent, List.getD_eq_getElem?_getD, List.getElem?_eq_getElem h1, List.getElem?_eq_getElem h2, List.getElem?_eq_getElem h3, List.getElem?_eq_getElem h4] using this
theorem addR_zero (h : Rect m r n) {i k : Nat} (hi : i < r) (hk : k < r) : addR m i k 0 = m :=
  mat_ext (rect_addR h hk 0) h fun p j _ _ => by
    rw [ent_addR h hi hk]
    split
    · rename_i e; subst e; omega
    · rfl
theorem addC_zero (h : Rect m r n) {j : Nat} (hj : j < n) (k : Nat) : addC m j k 0 = m :=
  mat_ext (rect_addC h _ _ 0) h fun p q _ _ => by
    rw [ent_addC h hj]
    split
    · rename_i e; subst e; omega
    · rfl
end
/-- the matrices, and how many places of the diagonal are done -/
structure S where
  a : Mat
  u : Mat
  v : Mat
  t : Nat
def S.addR (s : S) (i k : Nat) (x : Int) : S := { s with a := Sm.addR s.a i k x, u := Sm.addR s.u i k x }
def S.addC (s : S) (j k : Nat) (x : Int) : S := { s with a := Sm.addC s.a j k x, v := Sm.addC s.v j k x }
def S.swR (s : S) (i k : Nat) : S := { s with a := Sm.swR s.a i k, u := Sm.swR s.u i k }
def S.swC (s : S) (j k : Nat) : S := { s with a := Sm.swC s.a j k, v := Sm.swC s.v j k }
/-- f at lo, lo + 1, .., k - 1 in turn -/
def upto {α : Type} (f : α → Nat → α) (s : α) (lo k : Nat) : α := (List.range' lo (k - lo)).foldl f s
theorem upto_self {α : Type} (f : α → Nat → α) (s : α) (lo : Nat) : upto f s lo lo = s := by simp [upto]
theorem upto_succ {α : Type} (f : α → Nat → α) (s : α) {lo k : Nat} (h : lo ≤ k) : upto f s lo (k + 1) = f (upto f s lo k) k := by
  unfold upto
  rw [show k + 1 - lo = (k - lo) + 1 by omega, List.range'_concat, List.foldl_append]
  simp only [List.foldl_cons, List.foldl_nil, Nat.one_mul]
  rw [show lo + (k - lo) = k by omega]
theorem upto_inv {α : Type} (P : Nat → α → Prop) (f : α → Nat → α) {s : α} {lo : Nat} (h0 : P lo s) (hs : ∀ k s, lo ≤ k → P k s → P (k + 1) (f s k)) : ∀ k, lo ≤ k → P k (upto f s lo k) := by
  intro k hk
  obtain ⟨d, rfl⟩ : ∃ d, k = lo + d := ⟨k - lo, by omega⟩
  induction d with
  | zero => rw [Nat.add_zero, upto_self]; exact h0
  | succ d ih => rw [← Nat.add_assoc, upto_succ _ _ (by omega)]; exact hs _ _ (by omega) (ih (by omega))
def better (a : Mat) (i : Nat) (o : Option (Nat × Nat)) (j : Nat) : Option (Nat × Nat) :=
  match o with
  | none => if ent a i j = 0 then none else some (i, j)
  | some (x, y) => if ent a i j ≠ 0 ∧ (ent a i j).natAbs < (ent a x y).natAbs then some (i, j) else some (x, y)
def leastRow (a : Mat) (t n : Nat) (o : Option (Nat × Nat)) (i : Nat) : Option (Nat × Nat) := upto (better a i) o t n
def least (a : Mat) (t r n : Nat) : Option (Nat × Nat) := upto (leastRow a t n) none t r
def S.dn (s : S) (i : Nat) : S := s.addR i s.t (-((ent s.a i s.t).tdiv (ent s.a s.t s.t)))
def S.ac (s : S) (j : Nat) : S := s.addC j s.t (-((ent s.a s.t j).tdiv (ent s.a s.t s.t)))
def S.down (r : Nat) (s : S) : S := upto S.dn s (s.t + 1) r
def S.across (n : Nat) (s : S) : S := upto S.ac s (s.t + 1) n
def small (x : Int) : Bool := decide (-1000000000 ≤ x ∧ x ≤ 1000000000)
def fineM (m : Mat) : Bool := m.all fun p => p.all small
def S.fine (s : S) : Bool := fineM s.a && (fineM s.u && fineM s.v)
def S.restR (r : Nat) (s : S) : Bool := (List.range' (s.t + 1) (r - (s.t + 1))).any fun i => ent s.a i s.t != 0
def S.restC (n : Nat) (s : S) : Bool := (List.range' (s.t + 1) (n - (s.t + 1))).any fun j => ent s.a s.t j != 0
def S.odd (n : Nat) (s : S) (i : Nat) : Bool := (List.range' (s.t + 1) (n - (s.t + 1))).any fun j => (ent s.a i j).tmod (ent s.a s.t s.t) != 0
def S.spreadAt (r n : Nat) (s : S) : Option Nat := (List.range' (s.t + 1) (r - (s.t + 1))).find? (s.odd n)
def S.sign (s : S) : S := if ent s.a s.t s.t < 0 then s.addR s.t s.t (-2) else s
inductive Ph
  | choose
  | down
  | across
  | spread
  | sign
/-- what a step does: the next step and the state; no next step: the end; none: an entry is too great -/
def next (r n : Nat) : Ph → S → Option (Option Ph × S)
  | .choose, s => if s.t = r ∨ s.t = n then some (none, s) else match least s.a s.t r n with
    | none => some (none, s)
    | some (x, y) => some (some .down, (s.swR s.t x).swC s.t y)
  | .down, s => if (s.down r).fine then some (some .across, s.down r) else none
  | .across, s => if (s.across n).fine then some (some (if (s.across n).restR r || (s.across n).restC n then .choose else .spread), s.across n) else none
  | .spread, s => match s.spreadAt r n with
    | none => some (some .sign, s)
    | some i => if (s.addR s.t i 1).fine then some (some .across, s.addR s.t i 1) else none
  | .sign, s => some (some .choose, { s.sign with t := s.t + 1 })
/-- k steps at most; the outer none: not enough of them -/
def run (r n : Nat) : Nat → Ph → S → Option (Option S)
  | 0, _, _ => none
  | k + 1, p, s => match next r n p s with
    | none => some none
    | some (none, s') => some (some s')
    | some (some p', s') => run r n k p' s'
def idM (n : Nat) : Mat := (List.range n).map fun i => (List.range n).map fun j => if i = j then 1 else 0
def S.start (n : Nat) (l : Mat) : S := ⟨l, idM l.length, idM n, 0⟩
end Go.Proofs.Sm
namespace Go.Proofs.Sm
theorem small_iff {x : Int} : small x = true ↔ -1000000000 ≤ x ∧ x ≤ 1000000000 := by simp [small]
theorem fineM_iff {m : Mat} : fineM m = true ↔ ∀ i j, -1000000000 ≤ ent m i j ∧ ent m i j ≤ 1000000000 := by
  unfold fineM
  rw [List.all_eq_true]
  constructor
  · intro h i j
    unfold ent
    rcases Nat.lt_or_ge i m.length with hi | hi
    · have h1 := h (m.getD i []) (by rw [List.getD_eq_getElem?_getD, List.getElem?_eq_getElem hi]; exact List.getElem_mem hi)
      rcases Nat.lt_or_ge j (m.getD i []).length with hj | hj
      · rw [List.getD_eq_getElem?_getD (l := m.getD i []), List.getElem?_eq_getElem hj]
        exact small_iff.1 (List.all_eq_true.1 h1 _ (List.getElem_mem hj))
      · rw [List.getD_eq_getElem?_getD (l := m.getD i []), List.getElem?_eq_none hj]; decide
    · rw [List.getD_eq_getElem?_getD (l := m), List.getElem?_eq_none hi]; simp
  · intro h x hx
    rw [List.all_eq_true]
    intro y hy
    obtain ⟨i, hi, rfl⟩ := List.getElem_of_mem hx
    obtain ⟨j, hj, rfl⟩ := List.getElem_of_mem hy
    have := h i j
    rw [small_iff]
    simpa [ent, List.getD_eq_getElem?_getD, List.getElem?_eq_getElem hi, List.getElem?_eq_getElem hj] using this
structure Shape (r n : Nat) (s : S) : Prop where
  ra : Rect s.a r n
  ru : Rect s.u r r
  rv : Rect s.v n n
section
variable {r n : Nat} {s : S}
theorem Shape.addR (h : Shape r n s) {i k : Nat} (hk : k < r) (x : Int) : Shape r n (s.addR i k x) := ⟨rect_addR h.ra hk x, rect_addR h.ru hk x, h.rv⟩
theorem Shape.addC (h : Shape r n s) (j k : Nat) (x : Int) : Shape r n (s.addC j k x) := ⟨rect_addC h.ra j k x, h.ru, rect_addC h.rv j k x⟩
theorem Shape.swR (h : Shape r n s) {i k : Nat} (hi : i < r) (hk : k < r) : Shape r n (s.swR i k) := ⟨rect_swR h.ra hi hk, rect_swR h.ru hi hk, h.rv⟩
theorem Shape.swC (h : Shape r n s) (j k : Nat) : Shape r n (s.swC j k) := ⟨rect_swC h.ra j k, h.ru, rect_swC h.rv j k⟩
/-- the quotient by which a row is cleared -/
def qR (s : S) (i : Nat) : Int := (ent s.a i s.t).tdiv (ent s.a s.t s.t)
def qC (s : S) (j : Nat) : Int := (ent s.a s.t j).tdiv (ent s.a s.t s.t)
structure Dn (r n : Nat) (s s' : S) (k : Nat) : Prop where
  sh : Shape r n s'
  t : s'.t = s.t
  v : s'.v = s.v
  a : ∀ i j, ent s'.a i j = if s.t < i ∧ i < k then ent s.a i j + -qR s i * ent s.a s.t j else ent s.a i j
  u : ∀ i j, ent s'.u i j = if s.t < i ∧ i < k then ent s.u i j + -qR s i * ent s.u s.t j else ent s.u i j
structure Ac (r n : Nat) (s s' : S) (k : Nat) : Prop where
  sh : Shape r n s'
  t : s'.t = s.t
  u : s'.u = s.u
  a : ∀ i j, ent s'.a i j = if s.t < j ∧ j < k then ent s.a i j + -qC s j * ent s.a i s.t else ent s.a i j
  v : ∀ i j, ent s'.v i j = if s.t < j ∧ j < k then ent s.v i j + -qC s j * ent s.v i s.t else ent s.v i j
theorem dn_upto (h : Shape r n s) (ht : s.t < r) : ∀ k, s.t + 1 ≤ k → k ≤ r → Dn r n s (upto S.dn s (s.t + 1) k) k :=
  upto_inv (fun k s' => k ≤ r → Dn r n s s' k) S.dn
    (fun _ => ⟨h, rfl, rfl, fun i j => by rw [if_neg (by omega)], fun i j => by rw [if_neg (by omega)]⟩)
    (fun k s' hk ih hk' => by
      obtain ⟨h1, h2, h3, h4, h5⟩ := ih (by omega)
      have e1 : ent s'.a k s'.t = ent s.a k s.t := by rw [h2, h4, if_neg (by omega)]
      have e2 : ent s'.a s'.t s'.t = ent s.a s.t s.t := by rw [h2, h4, if_neg (by omega)]
      have e : s'.dn k = s'.addR k s.t (-qR s k) := by unfold S.dn qR; rw [e1, e2, h2]
      rw [e]
      refine ⟨h1.addR ht _, h2, h3, fun i j => ?_, fun i j => ?_⟩
      · show ent (Sm.addR s'.a k s.t _) i j = _
        rw [ent_addR h1.ra (by omega) ht, h4 k, h4 s.t, h4 i]
        by_cases e : i = k
        · subst e; rw [if_pos rfl, if_neg (by omega), if_neg (by omega), if_pos ⟨by omega, by omega⟩]
        · rw [if_neg e]
          by_cases e2 : s.t < i ∧ i < k
          · rw [if_pos e2, if_pos ⟨e2.1, by omega⟩]
          · rw [if_neg e2, if_neg (fun hh => e2 ⟨hh.1, by omega⟩)]
      · show ent (Sm.addR s'.u k s.t _) i j = _
        rw [ent_addR h1.ru (by omega) ht, h5 k, h5 s.t, h5 i]
        by_cases e : i = k
        · subst e; rw [if_pos rfl, if_neg (by omega), if_neg (by omega), if_pos ⟨by omega, by omega⟩]
        · rw [if_neg e]
          by_cases e2 : s.t < i ∧ i < k
          · rw [if_pos e2, if_pos ⟨e2.1, by omega⟩]
          · rw [if_neg e2, if_neg (fun hh => e2 ⟨hh.1, by omega⟩)])
theorem ac_upto (h : Shape r n s) (_ht : s.t < n) : ∀ k, s.t + 1 ≤ k → k ≤ n → Ac r n s (upto S.ac s (s.t + 1) k) k :=
  upto_inv (fun k s' => k ≤ n → Ac r n s s' k) S.ac
    (fun _ => ⟨h, rfl, rfl, fun i j => by rw [if_neg (by omega)], fun i j => by rw [if_neg (by omega)]⟩)
    (fun k s' hk ih hk' => by
      obtain ⟨h1, h2, h3, h4, h5⟩ := ih (by omega)
      have e1 : ent s'.a s'.t k = ent s.a s.t k := by rw [h2, h4, if_neg (by omega)]
      have e2 : ent s'.a s'.t s'.t = ent s.a s.t s.t := by rw [h2, h4, if_neg (by omega)]
      have e : s'.ac k = s'.addC k s.t (-qC s k) := by unfold S.ac qC; rw [e1, e2, h2]
      rw [e]
      refine ⟨h1.addC _ _ _, h2, h3, fun i j => ?_, fun i j => ?_⟩
      · show ent (Sm.addC s'.a k s.t _) i j = _
        rw [ent_addC h1.ra (by omega), h4 i k, h4 i s.t, h4 i j]
        by_cases e : j = k
        · subst e; rw [if_pos rfl, if_neg (by omega), if_neg (by omega), if_pos ⟨by omega, by omega⟩]
        · rw [if_neg e]
          by_cases e2 : s.t < j ∧ j < k
          · rw [if_pos e2, if_pos ⟨e2.1, by omega⟩]
          · rw [if_neg e2, if_neg (fun hh => e2 ⟨hh.1, by omega⟩)]
      · show ent (Sm.addC s'.v k s.t _) i j = _
        rw [ent_addC h1.rv (by omega), h5 i k, h5 i s.t, h5 i j]
        by_cases e : j = k
        · subst e; rw [if_pos rfl, if_neg (by omega), if_neg (by omega), if_pos ⟨by omega, by omega⟩]
        · rw [if_neg e]
          by_cases e2 : s.t < j ∧ j < k
          · rw [if_pos e2, if_pos ⟨e2.1, by omega⟩]
          · rw [if_neg e2, if_neg (fun hh => e2 ⟨hh.1, by omega⟩)])
theorem tdiv_rest (x y : Int) : x + -(x.tdiv y) * y = x.tmod y := by
  have := Int.tmod_add_mul_tdiv x y
  rw [Int.neg_mul, Int.mul_comm (x.tdiv y) y]; omega
/-- what holds at each step -/
structure Base (r n : Nat) (s : S) : Prop where
  sh : Shape r n s
  tr : s.t ≤ r
  tn : s.t ≤ n
  fa : fineM s.a = true
  fu : fineM s.u = true
  fv : fineM s.v = true
  diag : ∀ i j, i ≠ j → (i < s.t ∨ j < s.t) → ent s.a i j = 0
  pos : ∀ i, i < s.t → 0 < ent s.a i i
  dvd : ∀ i p q, i < s.t → i ≤ p → i ≤ q → ent s.a i i ∣ ent s.a p q
structure Piv (r n : Nat) (s : S) : Prop extends Base r n s where
  ltr : s.t < r
  ltn : s.t < n
  piv : ent s.a s.t s.t ≠ 0
structure Acr (r n : Nat) (s : S) : Prop extends Piv r n s where
  less : ∀ i, s.t < i → (ent s.a i s.t).natAbs < (ent s.a s.t s.t).natAbs
structure Spr (r n : Nat) (s : S) : Prop extends Piv r n s where
  zr : ∀ i, s.t < i → ent s.a i s.t = 0
  zc : ∀ j, s.t < j → ent s.a s.t j = 0
structure Sgn (r n : Nat) (s : S) : Prop extends Spr r n s where
  all : ∀ i j, s.t < i → s.t < j → ent s.a s.t s.t ∣ ent s.a i j
def PI (r n : Nat) : Ph → S → Prop
  | .choose => Base r n
  | .down => Piv r n
  | .across => Acr r n
  | .spread => Spr r n
  | .sign => Sgn r n
/-- the least entry -/
def Least (a : Mat) (_t : Nat) (D : Nat → Nat → Prop) (o : Option (Nat × Nat)) : Prop :=
  match o with
  | none => ∀ i j, D i j → ent a i j = 0
  | some (x, y) => D x y ∧ ent a x y ≠ 0 ∧ ∀ i j, D i j → ent a i j ≠ 0 → (ent a x y).natAbs ≤ (ent a i j).natAbs
theorem better_least {a : Mat} {t : Nat} {D D' : Nat → Nat → Prop} {o : Option (Nat × Nat)} {i j : Nat} (h : Least a t D o) (hD : ∀ p q, D' p q ↔ (D p q ∨ (p = i ∧ q = j))) : Least a t D' (better a i o j) := by
  unfold better
  rcases o with _ | ⟨x, y⟩
  · simp only
    split
    · intro p q hp
      rcases (hD p q).1 hp with hp | ⟨rfl, rfl⟩
      · exact h p q hp
      · assumption
    · rename_i hne
      refine ⟨(hD _ _).2 (.inr ⟨rfl, rfl⟩), hne, fun p q hp hpq => ?_⟩
      rcases (hD p q).1 hp with hp | ⟨rfl, rfl⟩
      · exact absurd (h p q hp) hpq
      · exact Nat.le_refl _
  · simp only
    obtain ⟨h1, h2, h3⟩ := h
    split
    · rename_i hc
      refine ⟨(hD _ _).2 (.inr ⟨rfl, rfl⟩), hc.1, fun p q hp hpq => ?_⟩
      rcases (hD p q).1 hp with hp | ⟨rfl, rfl⟩
      · have := h3 p q hp hpq; omega
      · exact Nat.le_refl _
    · rename_i hc
      refine ⟨(hD _ _).2 (.inl h1), h2, fun p q hp hpq => ?_⟩
      rcases (hD p q).1 hp with hp | ⟨rfl, rfl⟩
      · exact h3 p q hp hpq
      · rcases Nat.lt_or_ge (ent a p q).natAbs (ent a x y).natAbs with h | h
        · exact absurd ⟨hpq, h⟩ hc
        · exact h
theorem least_ok (a : Mat) {t r n : Nat} (hr : t ≤ r) (hn : t ≤ n) : Least a t (fun i j => t ≤ i ∧ i < r ∧ t ≤ j ∧ j < n) (least a t r n) := by
  have h := upto_inv (fun k o => k ≤ r → Least a t (fun i j => t ≤ i ∧ i < k ∧ t ≤ j ∧ j < n) o) (leastRow a t n) (s := none) (lo := t)
    (fun _ i j h => by omega) (fun k o hk ih hk' => by
      have h2 := upto_inv (fun m o' => m ≤ n → Least a t (fun i j => (t ≤ i ∧ i < k ∧ t ≤ j ∧ j < n) ∨ (i = k ∧ t ≤ j ∧ j < m)) o') (better a k) (s := o) (lo := t)
        (fun _ => by
          have := ih (by omega)
          have e : (fun i j => (t ≤ i ∧ i < k ∧ t ≤ j ∧ j < n) ∨ (i = k ∧ t ≤ j ∧ j < t)) = fun i j => t ≤ i ∧ i < k ∧ t ≤ j ∧ j < n := by
            funext i j; apply propext; constructor
            · rintro (h | h)
              · exact h
              · omega
            · exact .inl
          rw [e]; exact this)
        (fun m o' hm ih' hm' => better_least (ih' (by omega)) (fun p q => by
          constructor
          · rintro (h | ⟨h1, h2, h3⟩)
            · exact .inl (.inl h)
            · by_cases e : q = m
              · exact .inr ⟨h1, e⟩
              · exact .inl (.inr ⟨h1, h2, by omega⟩)
          · rintro ((h | h) | ⟨rfl, rfl⟩)
            · exact .inl h
            · exact .inr ⟨h.1, h.2.1, by omega⟩
            · exact .inr ⟨rfl, hm, by omega⟩)) n hn (Nat.le_refl _)
      have e : (fun i j => (t ≤ i ∧ i < k ∧ t ≤ j ∧ j < n) ∨ (i = k ∧ t ≤ j ∧ j < n)) = fun i j => t ≤ i ∧ i < k + 1 ∧ t ≤ j ∧ j < n := by
        funext i j; apply propext; constructor
        · rintro (h | h) <;> omega
        · intro h
          by_cases e : i = k
          · exact .inr ⟨e, h.2.2⟩
          · exact .inl ⟨h.1, by omega, h.2.2⟩
      rw [e] at h2
      exact h2)
  exact h r hr (Nat.le_refl _)
theorem sw_lt {t x p : Nat} (hx : t ≤ x) (hp : p < t) : sw t x p = p := by unfold sw; rw [if_neg (by omega), if_neg (by omega)]
theorem sw_ge {t x p : Nat} (hx : t ≤ x) (hp : t ≤ p) : t ≤ sw t x p := by
  unfold sw
  split
  · exact hx
  · split <;> omega
theorem sw_bd {t x p r : Nat} (ht : t < r) (hx : x < r) (hp : p < r) : sw t x p < r := by
  unfold sw
  split
  · exact hx
  · split <;> omega
theorem pi_choose (h : Base r n s) {x y : Nat} (htr : s.t < r) (htn : s.t < n) (hl : least s.a s.t r n = some (x, y)) : Piv r n ((s.swR s.t x).swC s.t y) ∧ ent ((s.swR s.t x).swC s.t y).a s.t s.t = ent s.a x y := by
  have hL := least_ok s.a h.tr h.tn
  rw [hl] at hL
  obtain ⟨⟨h1, h2, h3, h4⟩, h5, h6⟩ := hL
  have e : ∀ i j, ent ((s.swR s.t x).swC s.t y).a i j = ent s.a (sw s.t x i) (sw s.t y j) := fun i j => by
    show ent (Sm.swC (Sm.swR s.a s.t x) s.t y) i j = _
    rw [ent_swC (rect_swR h.sh.ra htr h2) htn h4, ent_swR h.sh.ra htr h2]
  have e0 : ent ((s.swR s.t x).swC s.t y).a s.t s.t = ent s.a x y := by rw [e]; simp [sw]
  refine ⟨⟨⟨(h.sh.swR htr h2).swC _ _, h.tr, h.tn, ?_, ?_, ?_, fun i j hne hlt => ?_, fun i hi => ?_, fun i p q hi hp hq => ?_⟩, htr, htn, by rw [show ((s.swR s.t x).swC s.t y).t = s.t from rfl, e0]; exact h5⟩, e0⟩
  · rw [fineM_iff]; intro i j; rw [e]; exact fineM_iff.1 h.fa _ _
  · rw [fineM_iff]; intro i j
    show -1000000000 ≤ ent (Sm.swR s.u s.t x) i j ∧ ent (Sm.swR s.u s.t x) i j ≤ _
    rw [ent_swR h.sh.ru htr h2]; exact fineM_iff.1 h.fu _ _
  · rw [fineM_iff]; intro i j
    show -1000000000 ≤ ent (Sm.swC s.v s.t y) i j ∧ ent (Sm.swC s.v s.t y) i j ≤ _
    rw [ent_swC h.sh.rv htn h4]; exact fineM_iff.1 h.fv _ _
  · rw [e]
    have hlt' : i < s.t ∨ j < s.t := hlt
    rcases hlt' with hi | hj
    · rw [sw_lt h1 hi]
      refine h.diag _ _ ?_ (.inl hi)
      rcases Nat.lt_or_ge j s.t with hj | hj
      · rw [sw_lt h3 hj]; exact hne
      · have := sw_ge h3 hj; omega
    · rw [sw_lt h3 hj]
      refine h.diag _ _ ?_ (.inr hj)
      rcases Nat.lt_or_ge i s.t with hi | hi
      · rw [sw_lt h1 hi]; exact hne
      · have := sw_ge h1 hi; omega
  · rw [e]
    have hi' : i < s.t := hi
    rw [sw_lt h1 hi', sw_lt h3 hi']; exact h.pos i hi'
  · have hi' : i < s.t := hi
    rw [e, e, sw_lt h1 hi', sw_lt h3 hi']
    refine h.dvd i _ _ hi' ?_ ?_
    · rcases Nat.lt_or_ge p s.t with h | h
      · rw [sw_lt h1 h]; exact hp
      · have := sw_ge h1 h; omega
    · rcases Nat.lt_or_ge q s.t with h | h
      · rw [sw_lt h3 h]; exact hq
      · have := sw_ge h3 h; omega
theorem natAbs_tmod_lt (x : Int) {y : Int} (h : y ≠ 0) : (x.tmod y).natAbs < y.natAbs := by
  rw [Int.natAbs_tmod]
  exact Nat.mod_lt _ (by omega)
theorem down_at (h : Piv r n s) : Dn r n s (s.down r) r := dn_upto h.sh h.ltr r h.ltr (Nat.le_refl _)
theorem across_at (h : Piv r n s) : Ac r n s (s.across n) n := ac_upto h.sh h.ltn n h.ltn (Nat.le_refl _)
theorem fine_parts (h : s.fine = true) : fineM s.a = true ∧ fineM s.u = true ∧ fineM s.v = true := by
  unfold S.fine at h
  simpa using h
theorem pi_down (h : Piv r n s) (hf : (s.down r).fine = true) : Acr r n (s.down r) ∧ (s.down r).t = s.t ∧ ent (s.down r).a s.t s.t = ent s.a s.t s.t := by
  have hd := down_at h
  obtain ⟨f1, f2, f3⟩ := fine_parts hf
  have e0 : ∀ j, ent (s.down r).a s.t j = ent s.a s.t j := fun j => by rw [hd.a, if_neg (by omega)]
  have e1 : ∀ i, s.t < i → ent (s.down r).a i s.t = (ent s.a i s.t).tmod (ent s.a s.t s.t) := fun i hi => by
    rw [hd.a]
    rcases Nat.lt_or_ge i r with h1 | h1
    · rw [if_pos ⟨hi, h1⟩]; exact tdiv_rest _ _
    · rw [if_neg (by omega), ent_out (by rw [h.sh.ra.1]; exact h1)]; simp
  refine ⟨⟨⟨⟨hd.sh, by rw [hd.t]; exact h.tr, by rw [hd.t]; exact h.tn, f1, f2, f3, ?_, ?_, ?_⟩, by rw [hd.t]; exact h.ltr, by rw [hd.t]; exact h.ltn, by rw [hd.t, e0]; exact h.piv⟩, ?_⟩, hd.t, e0 _⟩
  · rw [hd.t]
    intro i j hne hlt
    rw [hd.a]
    split
    · have hj : j < s.t := by omega
      rw [h.diag i j hne hlt, h.diag s.t j (by omega) (.inr hj)]; simp
    · exact h.diag i j hne hlt
  · rw [hd.t]; intro i hi; rw [hd.a, if_neg (by omega)]; exact h.pos i hi
  · rw [hd.t]; intro i p q hi hp hq
    rw [hd.a i i, if_neg (by omega), hd.a]
    split
    · exact Int.dvd_add (h.dvd i p q hi hp hq) (Int.dvd_mul_of_dvd_right (h.dvd i s.t q hi (by omega) hq))
    · exact h.dvd i p q hi hp hq
  · rw [hd.t]; intro i hi
    rw [e1 i hi, e0]; exact natAbs_tmod_lt _ h.piv
theorem pi_across (h : Acr r n s) (hf : (s.across n).fine = true) : Acr r n (s.across n) ∧ (s.across n).t = s.t ∧ ent (s.across n).a s.t s.t = ent s.a s.t s.t ∧ (∀ i, ent (s.across n).a i s.t = ent s.a i s.t) ∧ ∀ j, s.t < j → ent (s.across n).a s.t j = (ent s.a s.t j).tmod (ent s.a s.t s.t) := by
  have hd := across_at h.toPiv
  obtain ⟨f1, f2, f3⟩ := fine_parts hf
  have e0 : ∀ i, ent (s.across n).a i s.t = ent s.a i s.t := fun j => by rw [hd.a, if_neg (by omega)]
  have e1 : ∀ j, s.t < j → ent (s.across n).a s.t j = (ent s.a s.t j).tmod (ent s.a s.t s.t) := fun i hi => by
    rw [hd.a]
    rcases Nat.lt_or_ge i n with h1 | h1
    · rw [if_pos ⟨hi, h1⟩]; exact tdiv_rest _ _
    · rw [if_neg (by omega), ent_right h.sh.ra h1]; simp
  refine ⟨⟨⟨⟨hd.sh, by rw [hd.t]; exact h.tr, by rw [hd.t]; exact h.tn, f1, f2, f3, ?_, ?_, ?_⟩, by rw [hd.t]; exact h.ltr, by rw [hd.t]; exact h.ltn, by rw [hd.t, e0]; exact h.piv⟩, ?_⟩, hd.t, e0 _, e0, e1⟩
  · rw [hd.t]
    intro i j hne hlt
    rw [hd.a]
    split
    · have hj : i < s.t := by omega
      rw [h.diag i j hne hlt, h.diag i s.t (by omega) (.inl hj)]; simp
    · exact h.diag i j hne hlt
  · rw [hd.t]; intro i hi; rw [hd.a, if_neg (by omega)]; exact h.pos i hi
  · rw [hd.t]; intro i p q hi hp hq
    rw [hd.a i i, if_neg (by omega), hd.a]
    split
    · exact Int.dvd_add (h.dvd i p q hi hp hq) (Int.dvd_mul_of_dvd_right (h.dvd i p s.t hi hp (by omega)))
    · exact h.dvd i p q hi hp hq
  · rw [hd.t]; intro i hi
    rw [e0, e0]; exact h.less i hi
theorem any_range {lo hi : Nat} {p : Nat → Bool} : ((List.range' lo (hi - lo)).any p) = true ↔ ∃ i, lo ≤ i ∧ i < hi ∧ p i = true := by
  rw [List.any_eq_true]
  constructor
  · rintro ⟨i, hi, hp⟩; rw [List.mem_range'_1] at hi; exact ⟨i, hi.1, by omega, hp⟩
  · rintro ⟨i, h1, h2, hp⟩; exact ⟨i, by rw [List.mem_range'_1]; omega, hp⟩
theorem restR_iff : s.restR r = true ↔ ∃ i, s.t + 1 ≤ i ∧ i < r ∧ ent s.a i s.t ≠ 0 := by unfold S.restR; rw [any_range]; simp
theorem restC_iff : s.restC n = true ↔ ∃ i, s.t + 1 ≤ i ∧ i < n ∧ ent s.a s.t i ≠ 0 := by unfold S.restC; rw [any_range]; simp
theorem odd_iff {i : Nat} : s.odd n i = true ↔ ∃ j, s.t + 1 ≤ j ∧ j < n ∧ (ent s.a i j).tmod (ent s.a s.t s.t) ≠ 0 := by unfold S.odd; rw [any_range]; simp
theorem pi_spread (h : Acr r n s) (hr : s.restR r = false) (hc : s.restC n = false) : Spr r n s := by
  refine ⟨h.toPiv, fun i hi => ?_, fun j hj => ?_⟩
  · rcases Nat.lt_or_ge i r with h1 | h1
    · apply Classical.byContradiction; intro hne
      rw [restR_iff.2 ⟨i, hi, h1, hne⟩] at hr; cases hr
    · exact ent_out (by rw [h.sh.ra.1]; exact h1)
  · rcases Nat.lt_or_ge j n with h1 | h1
    · apply Classical.byContradiction; intro hne
      rw [restC_iff.2 ⟨j, hj, h1, hne⟩] at hc; cases hc
    · exact ent_right h.sh.ra h1
theorem pi_sign (h : Spr r n s) (hs : s.spreadAt r n = none) : Sgn r n s := by
  refine ⟨h, fun i j hi hj => ?_⟩
  rcases Nat.lt_or_ge i r with h1 | h1
  · rcases Nat.lt_or_ge j n with h2 | h2
    · apply Int.dvd_of_tmod_eq_zero
      apply Classical.byContradiction; intro hne
      unfold S.spreadAt at hs
      rw [List.find?_eq_none] at hs
      exact hs i (by rw [List.mem_range'_1]; omega) (odd_iff.2 ⟨j, hj, h2, hne⟩)
    · rw [ent_right h.sh.ra h2]; exact Int.dvd_zero _
  · rw [ent_out (i := i) (j := j) (by rw [h.sh.ra.1]; exact h1)]; exact Int.dvd_zero _
theorem spreadAt_some {i : Nat} (hs : s.spreadAt r n = some i) : s.t < i ∧ i < r ∧ ∃ j, s.t + 1 ≤ j ∧ j < n ∧ (ent s.a i j).tmod (ent s.a s.t s.t) ≠ 0 := by
  unfold S.spreadAt at hs
  have h1 := List.mem_of_find?_eq_some hs
  have h2 := List.find?_some hs
  rw [List.mem_range'_1] at h1
  exact ⟨by omega, by omega, odd_iff.1 h2⟩
theorem pi_again (h : Spr r n s) {i : Nat} (hs : s.spreadAt r n = some i) (hf : (s.addR s.t i 1).fine = true) : Acr r n (s.addR s.t i 1) ∧ ent (s.addR s.t i 1).a s.t s.t = ent s.a s.t s.t ∧ ∃ j, s.t + 1 ≤ j ∧ j < n ∧ (ent (s.addR s.t i 1).a s.t j).tmod (ent s.a s.t s.t) ≠ 0 := by
  obtain ⟨h1, h2, j, h3, h4, h5⟩ := spreadAt_some hs
  obtain ⟨f1, f2, f3⟩ := fine_parts hf
  have e : ∀ p q, ent (s.addR s.t i 1).a p q = if p = s.t then ent s.a s.t q + 1 * ent s.a i q else ent s.a p q := ent_addR h.sh.ra h.ltr h2 1
  have e0 : ent (s.addR s.t i 1).a s.t s.t = ent s.a s.t s.t := by rw [e, if_pos rfl, h.zr i h1]; omega
  refine ⟨⟨⟨⟨h.sh.addR h2 1, h.tr, h.tn, f1, f2, f3, fun p q hne hlt => ?_, fun p hp => ?_, fun p q' q hi hp hq => ?_⟩, h.ltr, h.ltn, ?_⟩, fun p hp => ?_⟩, e0, j, h3, h4, ?_⟩
  · have hlt' : p < s.t ∨ q < s.t := hlt
    rw [e]
    split
    · rename_i ep; subst ep
      rw [h.diag s.t q hne hlt', h.diag i q (by omega) (by omega)]; rfl
    · exact h.diag p q hne hlt'
  · have hp' : p < s.t := hp
    rw [e, if_neg (by omega)]; exact h.pos p hp'
  · have hi' : p < s.t := hi
    rw [e p p, if_neg (by omega), e]
    split
    · rename_i ep; subst ep
      exact Int.dvd_add (h.dvd p _ q hi' hp hq) (by rw [Int.one_mul]; exact h.dvd p i q hi' (by omega) hq)
    · exact h.dvd p q' q hi' hp hq
  · show ent (s.addR s.t i 1).a s.t s.t ≠ 0
    rw [e0]; exact h.piv
  · have hp' : s.t < p := hp
    show (ent (s.addR s.t i 1).a p s.t).natAbs < (ent (s.addR s.t i 1).a s.t s.t).natAbs
    have := h.piv
    rw [e0, e, if_neg (by omega), h.zr p hp']; omega
  · rw [e, if_pos rfl, h.zc j h3, Int.zero_add, Int.one_mul]; exact h5
theorem pi_next (h : Sgn r n s) : Base r n { s.sign with t := s.t + 1 } := by
  unfold S.sign
  split
  · rename_i hneg
    have e : ∀ p q, ent (s.addR s.t s.t (-2)).a p q = if p = s.t then - ent s.a s.t q else ent s.a p q := fun p q => by
      show ent (Sm.addR s.a s.t s.t (-2)) p q = _
      rw [ent_addR h.sh.ra h.ltr h.ltr]
      split <;> omega
    refine ⟨⟨(h.sh.addR h.ltr _).ra, (h.sh.addR h.ltr _).ru, h.sh.rv⟩, h.ltr, h.ltn, ?_, ?_, h.fv, fun i j hne hlt => ?_, fun i hi => ?_, fun i p q hi hp hq => ?_⟩
    · rw [fineM_iff]; intro i j
      show -1000000000 ≤ ent (s.addR s.t s.t (-2)).a i j ∧ ent (s.addR s.t s.t (-2)).a i j ≤ _
      rw [e]
      have := fineM_iff.1 h.fa s.t j
      have := fineM_iff.1 h.fa i j
      split <;> omega
    · rw [fineM_iff]; intro i j
      show -1000000000 ≤ ent (Sm.addR s.u s.t s.t (-2)) i j ∧ ent (Sm.addR s.u s.t s.t (-2)) i j ≤ _
      rw [ent_addR h.sh.ru h.ltr h.ltr]
      have := fineM_iff.1 h.fu s.t j
      have := fineM_iff.1 h.fu i j
      split <;> omega
    · have hlt' : i < s.t + 1 ∨ j < s.t + 1 := hlt
      show ent (s.addR s.t s.t (-2)).a i j = 0
      rw [e]
      split
      · rename_i ei; subst ei
        rcases Nat.lt_or_ge j s.t with hj | hj
        · rw [h.diag _ j hne (.inr hj)]; rfl
        · rw [h.zc j (by omega)]; rfl
      · rename_i ei
        by_cases c : i < s.t ∨ j < s.t
        · exact h.diag i j hne c
        · obtain rfl : j = s.t := by omega
          exact h.zr i (by omega)
    · have hi' : i < s.t + 1 := hi
      show 0 < ent (s.addR s.t s.t (-2)).a i i
      rw [e]
      split
      · rename_i ei; subst ei; omega
      · exact h.pos i (by omega)
    · have hi' : i < s.t + 1 := hi
      show ent (s.addR s.t s.t (-2)).a i i ∣ ent (s.addR s.t s.t (-2)).a p q
      have key : ent s.a i i ∣ ent s.a p q := by
        by_cases ei : i = s.t
        · subst ei
          by_cases ep : p = s.t
          · subst ep
            by_cases eq : q = s.t
            · subst eq; exact Int.dvd_refl _
            · rw [h.zc q (by omega)]; exact Int.dvd_zero _
          · by_cases eq : q = s.t
            · subst eq; rw [h.zr p (by omega)]; exact Int.dvd_zero _
            · exact h.all p q (by omega) (by omega)
        · exact h.dvd i p q (by omega) hp hq
      have key2 : ent s.a i i ∣ ent (s.addR s.t s.t (-2)).a p q := by
        rw [e]
        split
        · rename_i ep; subst ep; exact Int.dvd_neg.2 key
        · exact key
      rw [e i i]
      split
      · rename_i ei; subst ei; exact Int.neg_dvd.2 key2
      · exact key2
  · rename_i hneg
    refine ⟨⟨h.sh.ra, h.sh.ru, h.sh.rv⟩, h.ltr, h.ltn, h.fa, h.fu, h.fv, fun i j hne hlt => ?_, fun i hi => ?_, fun i p q hi hp hq => ?_⟩
    · have hlt' : i < s.t + 1 ∨ j < s.t + 1 := hlt
      by_cases c : i < s.t ∨ j < s.t
      · exact h.diag i j hne c
      · show ent s.a i j = 0
        by_cases ei : i = s.t
        · subst ei; exact h.zc j (by omega)
        · obtain rfl : j = s.t := by omega
          exact h.zr i (by omega)
    · have hi' : i < s.t + 1 := hi
      show 0 < ent s.a i i
      by_cases ei : i = s.t
      · subst ei; have := h.piv; omega
      · exact h.pos i (by omega)
    · have hi' : i < s.t + 1 := hi
      show ent s.a i i ∣ ent s.a p q
      by_cases ei : i = s.t
      · subst ei
        by_cases ep : p = s.t
        · subst ep
          by_cases eq : q = s.t
          · subst eq; exact Int.dvd_refl _
          · rw [h.zc q (by omega)]; exact Int.dvd_zero _
        · by_cases eq : q = s.t
          · subst eq; rw [h.zr p (by omega)]; exact Int.dvd_zero _
          · exact h.all p q (by omega) (by omega)
      · exact h.dvd i p q (by omega) hp hq
theorem next_choose : next r n .choose s = if s.t = r ∨ s.t = n then some (none, s) else match least s.a s.t r n with
    | none => some (none, s)
    | some (x, y) => some (some .down, (s.swR s.t x).swC s.t y) := rfl
theorem next_down : next r n .down s = if (s.down r).fine then some (some .across, s.down r) else none := rfl
theorem next_across : next r n .across s = if (s.across n).fine then some (some (if (s.across n).restR r || (s.across n).restC n then .choose else .spread), s.across n) else none := rfl
theorem next_spread : next r n .spread s = match s.spreadAt r n with
    | none => some (some .sign, s)
    | some i => if (s.addR s.t i 1).fine then some (some .across, s.addR s.t i 1) else none := rfl
theorem next_sign : next r n .sign s = some (some .choose, { s.sign with t := s.t + 1 }) := rfl
theorem next_pi {p p' : Ph} {s' : S} (h : PI r n p s) (hn : next r n p s = some (some p', s')) : PI r n p' s' := by
  cases p
  · rw [next_choose] at hn
    split at hn
    · cases hn
    · rename_i hc
      split at hn
      · cases hn
      · rename_i x y hl
        cases hn
        exact (pi_choose h (by have := h.tr; omega) (by have := h.tn; omega) hl).1
  · rw [next_down] at hn
    split at hn
    · rename_i hf
      cases hn
      exact (pi_down h hf).1
    · cases hn
  · rw [next_across] at hn
    split at hn
    · rename_i hf
      have h1 := (pi_across h hf).1
      cases hb : (s.across n).restR r || (s.across n).restC n
      · rw [hb] at hn
        cases hn
        rw [Bool.or_eq_false_iff] at hb
        exact pi_spread h1 hb.1 hb.2
      · rw [hb] at hn
        cases hn
        exact h1.toBase
    · cases hn
  · rw [next_spread] at hn
    split at hn
    · rename_i hs
      cases hn
      exact pi_sign h hs
    · rename_i i hs
      split at hn
      · rename_i hf
        cases hn
        exact (pi_again h hs hf).1
      · cases hn
  · rw [next_sign] at hn
    cases hn
    exact pi_next h
end
end Go.Proofs.Sm
