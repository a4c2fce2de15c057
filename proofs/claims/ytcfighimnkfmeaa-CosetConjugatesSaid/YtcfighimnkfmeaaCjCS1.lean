/- Words for memory: slices that read as lists; slices of the call's own that grow; append of one list to another of the call's own; Coset tables, plainly: check, the standard table, representatives. No program in sight; Coset tables, plainly: the order of a table, standard tables, the lengths of representatives; Words and Schreier systems, plainly; Schreier systems, plainly: the places of pairs; The letters of representatives; Presentations of subgroups, plainly: which relators, in which order, and when they are too long. -/
import Derived.WalkKit
import Derived.WalkSpells
import Derived.WalkLawsBesides
import Derived.Lib.Hide
import Derived.Deep.QuietTactic
import Derived.BigQuiet
import Derived.KernelRfl
import Derived.Shelf.Abstract
import Derived.Laws.AppendOwn
import Derived.Maps.AppendAt
import Derived.Maps.OwnSet
import Derived.Maps.OwnOps
import Derived.Deep.AppendSrc
import Derived.Test.YtcfighimnkfmeaaProg
namespace Go.Proofs
open Go.RowKit
/-- The cells from b, off on hold vs. -/
def Row (w : World) (b off : Nat) (vs : List Value) : Prop := ∀ j v, vs[j]? = some v → w.cell? ⟨b, off + j, none⟩ = some v
/-- The slice value v reads as the list vs (elements of one cell). -/
def Sl (w : World) (v : Value) (vs : List Value) : Prop :=
  ∃ A n cap, v = .slice A n cap ∧ n = vs.length ∧ n ≤ cap ∧ cap ≤ maxLen ∧ (0 < n → ∃ b off, A = some ⟨b, off, none⟩ ∧ Row w b off vs)
def ints (xs : List Int) : List Value := xs.map (Value.int .i64)
def Fits (xs : List Int) : Prop := ∀ x ∈ xs, -9223372036854775808 ≤ x ∧ x ≤ 9223372036854775807
def IntsAt (w : World) (v : Value) (xs : List Int) : Prop := Sl w v (ints xs) ∧ Fits xs
section
variable {w w' : World} {v : Value} {vs : List Value}
theorem Row.lt {b off : Nat} (h : Row w b off vs) (hn : 0 < vs.length) : b < w.heap.size := by
  have := h 0 _ (List.getElem?_eq_getElem hn)
  exact World.block_lt_of_cell? w _ this
theorem Row.keep {b off : Nat} (h : Row w b off vs) (hk : ∀ p : Addr, p.block < w.heap.size → w'.cell? p = w.cell? p) : Row w' b off vs := by
  intro j u hu
  have := h j u hu
  rw [hk _ (World.block_lt_of_cell? w _ this)]
  exact this
theorem Sl.keep (h : Sl w v vs) (hk : ∀ p : Addr, p.block < w.heap.size → w'.cell? p = w.cell? p) : Sl w' v vs := by
  obtain ⟨A, n, cap, h1, h2, h3, h4, h5⟩ := h
  exact ⟨A, n, cap, h1, h2, h3, h4, fun hn => let ⟨b, off, ha, hr⟩ := h5 hn; ⟨b, off, ha, hr.keep hk⟩⟩
theorem Sl.below (h : Sl w v vs) (hb : Below w.heap.size w w') : Sl w' v vs := h.keep fun _ hp => hb.cell hp
theorem IntsAt.below {xs : List Int} (h : IntsAt w v xs) (hb : Below w.heap.size w w') : IntsAt w' v xs := ⟨h.1.below hb, h.2⟩
theorem Sl.drewN (h : Sl w v vs) (k : Nat) : Sl (w.drewN k) v vs := h
theorem IntsAt.drewN {xs : List Int} (h : IntsAt w v xs) (k : Nat) : IntsAt (w.drewN k) v xs := h
theorem IntsAt.open_ {xs : List Int} (h : IntsAt w v xs) : ∃ A cap, v = .slice A xs.length cap ∧ xs.length ≤ cap ∧ cap ≤ 9223372036854775807 ∧
    (0 < xs.length → ∃ b off, A = some ⟨b, off, none⟩ ∧ ∀ k, k < xs.length → w.cell? ⟨b, off + k, none⟩ = some (.int .i64 (xs.getD k 0))) := by
  obtain ⟨⟨A, n, cap, h1, h2, h3, h4, h5⟩, hf⟩ := h
  have hl : n = xs.length := by simpa [ints] using h2
  subst hl
  refine ⟨A, cap, h1, h3, by simpa [maxLen] using h4, fun hn => ?_⟩
  obtain ⟨b, off, ha, hr⟩ := h5 hn
  refine ⟨b, off, ha, fun k hk => hr k _ ?_⟩
  simp [ints, List.getElem?_map, List.getD_eq_getElem?_getD, List.getElem?_eq_getElem hk]
theorem Fits.at_ {xs : List Int} (h : Fits xs) (k : Nat) : -9223372036854775808 ≤ xs.getD k 0 ∧ xs.getD k 0 ≤ 9223372036854775807 := by
  rw [List.getD_eq_getElem?_getD]
  rcases Nat.lt_or_ge k xs.length with hk | hk
  · rw [List.getElem?_eq_getElem hk]; exact h _ (List.getElem_mem hk)
  · rw [List.getElem?_eq_none hk]; simp
end
/-- A slice whose elements (one cell each) read, by R, as the list xs. -/
def LAt {α : Type} (R : World → Value → α → Prop) (d : α) (w : World) (v : Value) (xs : List α) : Prop :=
  ∃ vs, Sl w v vs ∧ vs.length = xs.length ∧ ∀ i, i < xs.length → ∃ u, vs[i]? = some u ∧ R w u (xs.getD i d)
def Kept {α : Type} (R : World → Value → α → Prop) : Prop := ∀ w w' v x, (∀ k, k < w.heap.size → w'.heap[k]? = w.heap[k]?) → R w v x → R w' v x
theorem cell_blocks {w w' : World} (h : ∀ k, k < w.heap.size → w'.heap[k]? = w.heap[k]?) (p : Addr) (hp : p.block < w.heap.size) : w'.cell? p = w.cell? p := World.cell?_of_block (h p.block hp)
theorem kept_ints : Kept IntsAt := fun _ _ _ _ hk h => ⟨h.1.keep (cell_blocks hk), h.2⟩
theorem kept_L {α : Type} {R : World → Value → α → Prop} {d : α} (hR : Kept R) : Kept (LAt R d) := fun _w _w' _v _xs hk ⟨vs, h1, h2, h3⟩ =>
  ⟨vs, h1.keep (cell_blocks hk), h2, fun i hi => let ⟨u, hu, hr⟩ := h3 i hi; ⟨u, hu, hR _ _ _ _ hk hr⟩⟩
abbrev Tab := LAt IntsAt []
theorem kept_tab : Kept Tab := kept_L kept_ints
theorem Kept.below {α : Type} {R : World → Value → α → Prop} (hR : Kept R) {w w' : World} {v : Value} {x : α} (h : R w v x) (hb : Below w.heap.size w w') : R w' v x := hR _ _ _ _ hb.block h
/-- The slice opened: an address where there is an element. -/
theorem LAt.open_ {α : Type} {R : World → Value → α → Prop} {d : α} {w : World} {v : Value} {xs : List α} (h : LAt R d w v xs) : ∃ A cap, v = .slice A xs.length cap ∧ xs.length ≤ cap ∧ cap ≤ 9223372036854775807 ∧
    (0 < xs.length → ∃ b off, A = some ⟨b, off, none⟩ ∧ ∀ k, k < xs.length → ∃ u, w.cell? ⟨b, off + k, none⟩ = some u ∧ R w u (xs.getD k d)) := by
  obtain ⟨vs, ⟨A, n, cap, h1, h2, h3, h4, h5⟩, hl, he⟩ := h
  have hn : n = xs.length := h2.trans hl
  subst hn
  refine ⟨A, cap, h1, h3, by simpa [maxLen] using h4, fun hn => ?_⟩
  obtain ⟨b, off, ha, hr⟩ := h5 hn
  refine ⟨b, off, ha, fun k hk => ?_⟩
  obtain ⟨u, hu, hru⟩ := he k hk
  exact ⟨u, hr k u hu, hru⟩
theorem quiet_add_left {P : Program} {f : FuncId} {args : Array Value} {w : World} {a n : Nat} {v : Value}
    (h : Calls P f args (w.drewN (a + n)) fun e w' => e = .returned v ∧ w.drewN (a + n) = w') :
    Calls P f args (w.drewN (a + n)) fun e w'' => e = .returned v ∧ ∃ m, w'' = w.drewN (a + m) :=
  h.mono fun _ _ ⟨he, hm⟩ => ⟨he, n, hm.symm⟩
theorem ret_bool {a b : Bool} (h : a = b) : Ending.returned (.bool a) = Ending.returned (.bool b) := by rw [h]
theorem ret_int {k : IntKind} {a b : Int} (h : a = b) : Ending.returned (.int k a) = Ending.returned (.int k b) := by rw [h]
theorem ret_of2 {u v : Value} {l : IntKind} {b d : Int} (h : u = v) (h' : b = d) : Ending.returned (.tuple #[u, .int l b]) = Ending.returned (.tuple #[v, .int l d]) := by rw [h, h']
theorem ret_pair {k l : IntKind} {a b c d : Int} (h : a = c) (h' : b = d) : Ending.returned (.tuple #[.int k a, .int l b]) = Ending.returned (.tuple #[.int k c, .int l d]) := by rw [h, h']
theorem below_drewN {B : Nat} {a w : World} (h : Below B a w) (n : Nat) : Below B a (w.drewN n) := ⟨h.os, h.tape, h.output, h.size, h.block⟩
theorem ints_app (a b : List Int) : ints (a ++ b) = ints a ++ ints b := by simp [ints]
theorem length_ints (a : List Int) : (ints a).length = a.length := by simp [ints]
theorem getD_ext {α : Type} {d : α} {A B : List α} (hl : A.length = B.length) (h : ∀ k, k < A.length → A.getD k d = B.getD k d) : A = B := by
  apply List.ext_getElem hl
  intro i h1 h2
  have := h i h1
  simpa [List.getD_eq_getElem?_getD, h1, h2] using this
theorem getD_ne {α : Type} {d : α} {A B : List α} {k : Nat} (h : A.getD k d ≠ B.getD k d) : A ≠ B := fun e => h (by rw [e])
theorem ex_drewN {w : World} {n m : Nat} : ∃ q, (w.drewN n).drewN m = w.drewN q := ⟨_, World.drewN_drewN _ _ _⟩
theorem all_succ {p : Nat → Prop} {k : Nat} (h : ∀ j, j < k → p j) (hk : p k) : ∀ j, j < k + 1 → p j := fun j hj => by
  rcases Nat.lt_or_ge j k with h1 | h1
  · exact h j h1
  · obtain rfl : j = k := by omega
    exact hk
theorem intsAt_nil {w : World} : IntsAt w (.slice none 0 0) [] := ⟨⟨none, 0, 0, rfl, rfl, Nat.le_refl _, by simp [maxLen], fun h => absurd h (by simp)⟩, fun x hx => by cases hx⟩
theorem tab_nil {w : World} : Tab w (.slice none 0 0) [] := ⟨[], ⟨none, 0, 0, rfl, rfl, Nat.le_refl _, by simp [maxLen], fun h => absurd h (by omega)⟩, rfl, fun i hi => absurd hi (by simp)⟩
def allocs : World → List Obj → World
  | w, [] => w
  | w, o :: os => allocs (w.alloc o) os
theorem allocs_below : ∀ (os : List Obj) (w : World) (n : Nat), n ≤ w.heap.size → Below n w (allocs w os)
  | [], _, _, _ => Below.refl _ _
  | o :: os, w, n, h => ((Below.refl n w).alloc h o).trans (allocs_below os (w.alloc o) n (by simp; omega))
theorem allocs_get : ∀ (os : List Obj) (w : World) (i : Nat) (o : Obj), os[i]? = some o → (allocs w os).heap[w.heap.size + i]? = some o
  | [], _, _, _, h => by simp at h
  | o :: os, w, 0, o', h => by
    have e : o = o' := by simpa using h
    subst e
    have hb := allocs_below os (w.alloc o) (w.heap.size + 1) (by simp)
    exact (hb.block w.heap.size (by omega)).trans (heap_alloc_new w o)
  | o :: os, w, i + 1, o', h => by
    have := allocs_get os (w.alloc o) i o' (by simpa using h)
    rw [World.size_alloc] at this
    rw [show w.heap.size + (i + 1) = w.heap.size + 1 + i by omega]
    exact this
section
variable {ops : Array Oper} {rest : List Oper} {o : Oper} {a : Act} {w w' : World} {Q : Exit → Act → World → Prop} {v : Value}
theorem wpList_sel (s : Nat) {op : Op} {t : TypeId} {p : String} {af : Array Edge} {g : Option (Nat × Bool)} (h : wpList Try.prog ops Q (⟨some s, op, t, p, af, g⟩ :: rest) a w) : wpList Try.prog ops Q (⟨some s, op, t, p, af, g⟩ :: rest) a w := h
theorem wpList_selStore (T : TypeId) (x y : Nat) {t : TypeId} {p : String} {af : Array Edge} {g : Option (Nat × Bool)} (h : wpList Try.prog ops Q (⟨none, .store T (.tmp x) (.tmp y), t, p, af, g⟩ :: rest) a w) : wpList Try.prog ops Q (⟨none, .store T (.tmp x) (.tmp y), t, p, af, g⟩ :: rest) a w := h
theorem wpList_val (hg : o.guard = none) (hrun : (execOp a.eval o).run Try.prog w = .ok (.value v) w') (h : wpList Try.prog ops Q rest (a.put o.dst v) w') : wpList Try.prog ops Q (o :: rest) a w :=
  wpList_plain hg fun _ hK => by
    unfold Oper.wp
    rw [hrun]
    exact hK _ _ h
theorem wpList_skip (hg : o.guard = none) (hrun : (execOp a.eval o).run Try.prog w = .ok .skip w') (h : wpList Try.prog ops Q rest (a.put o.dst undef) w') : wpList Try.prog ops Q (o :: rest) a w :=
  wpList_plain hg fun _ hK => by
    unfold Oper.wp
    rw [hrun]
    exact hK _ _ h
theorem r_app (s x : Operand) (t : TypeId) {sv xv v' : Value} (ho : o.op = .call { callee := .builtin .append, args := #[s, x], argTypes := #[t, t] }) (hs : a.eval s = sv) (hx : a.eval x = xv)
    (hr : (Builtin.append_ #[t, t] o.type #[sv, xv]).run Try.prog w = .ok v' w') : (execOp a.eval o).run Try.prog w = .ok (.value v') w' := by
  unfold execOp
  simp only [ho, resolve, invoke, builtin, Sem.run_bind, Sem.run_pure, Result.andThen_ok, List.map_toArray, List.map_cons, List.map_nil, hs, hx, hr]
end
theorem owns_block {w : World} {base e n : Nat} {v : Value} {xs : List Value} (h : w.ownsRow base e 1 v n xs) : ∀ r, v.ownBlock = some r → base ≤ r ∧ ∃ C, w.heap[r]? = some (.cells C e (0, 0)) := fun r hr => by
  rcases h.2 with ⟨rfl, -⟩ | ⟨g, cap, cur, rfl, hb, hg, -⟩
  · cases hr
  · have : g = r := Option.some.inj hr
    subst this
    exact ⟨hb, cur, hg⟩
theorem owns_lt {w : World} {base e n : Nat} {v : Value} {xs : List Value} (h : w.ownsRow base e 1 v n xs) {r : Nat} (hr : v.ownBlock = some r) : r < w.heap.size := by
  obtain ⟨-, C, hC⟩ := owns_block h r hr
  exact (Array.getElem?_eq_some_iff.1 hC).1
theorem owns_keep {w w' : World} {base e size n : Nat} {v : Value} {xs : List Value} (h : w.ownsRow base e size v n xs) (hb : ∀ r, v.ownBlock = some r → w'.heap[r]? = w.heap[r]?) : w'.ownsRow base e size v n xs := by
  obtain ⟨h1, h2⟩ := h
  refine ⟨h1, ?_⟩
  rcases h2 with h2 | ⟨g, cap, cur, a, b, hg, r⟩
  · exact .inl h2
  · exact .inr ⟨g, cap, cur, a, b, (hb g (by rw [a]; rfl)).trans hg, r⟩
theorem owns_form {w : World} {base e n : Nat} {v : Value} {xs : List Value} (h : w.ownsRow base e 1 v n xs) : ∃ A c, v = .slice A n c := by
  rcases h.2 with ⟨rfl, rfl⟩ | ⟨g, cap, cur, rfl, -⟩
  · exact ⟨none, 0, rfl⟩
  · exact ⟨_, _, rfl⟩
theorem owns_below {w w' : World} {base e size n : Nat} {v : Value} {xs : List Value} (h : w.ownsRow base e size v n xs) (hb : Below w.heap.size w w') : w'.ownsRow base e size v n xs := by
  obtain ⟨h1, h2⟩ := h
  refine ⟨h1, ?_⟩
  rcases h2 with h2 | ⟨g, cap, cur, a, b, hg, r⟩
  · exact .inl h2
  · exact .inr ⟨g, cap, cur, a, b, (hb.block _ (Array.getElem?_eq_some_iff.1 hg).1).trans hg, r⟩
theorem owns_base {w : World} {base base' e size n : Nat} {v : Value} {xs : List Value} (h : w.ownsRow base e size v n xs) (hb : base' ≤ base) : w.ownsRow base' e size v n xs := by
  obtain ⟨h1, h2⟩ := h
  refine ⟨h1, ?_⟩
  rcases h2 with h2 | ⟨g, cap, cur, a, b, r⟩
  · exact .inl h2
  · exact .inr ⟨g, cap, cur, a, Nat.le_trans hb b, r⟩
theorem sl_of_owns {w : World} {base e n : Nat} {v : Value} {xs : List Value} (h : w.ownsRow base e 1 v n xs) : Sl w v xs := by
  obtain ⟨hl, h⟩ := h
  rcases h with ⟨rfl, rfl⟩ | ⟨g, cap, cur, rfl, hbg, hg, hnc, hcm, hcs, htake⟩
  · exact ⟨none, 0, 0, rfl, by simpa using hl.symm, Nat.le_refl _, by simp [maxLen], fun h => absurd h (by omega)⟩
  · refine ⟨_, n, cap, rfl, by omega, hnc, hcm, fun _ => ⟨g, 0, rfl, fun j u hu => ?_⟩⟩
    rw [cell_of_row _ _ _ _ _ _ hg, Nat.zero_add]
    rw [← htake, List.getElem?_take] at hu
    split at hu
    · simpa using hu
    · cases hu
/-- v is a slice of numbers of the call's own -/
abbrev OwnI (base : Nat) (w : World) (v : Value) (xs : List Int) : Prop := w.ownsRow base 3 1 v xs.length (ints xs)
theorem OwnI.ints {base : Nat} {w : World} {v : Value} {xs : List Int} (h : OwnI base w v xs) (hf : Fits xs) : IntsAt w v xs := ⟨sl_of_owns h, hf⟩
theorem info3p : ∃ i, Try.prog.info? 3 = some i ∧ i.zero = some (.int .i64 0) ∧ i.size = 1 ∧ i.bytes = 8 := by
  have h : (Try.prog.info? 3).map (fun i => (i.zero, i.size, i.bytes)) = some (some (.int .i64 0), 1, 8) := by kernel_rfl
  cases hq : Try.prog.info? 3 with
  | none => simp [hq] at h
  | some i => simp [hq] at h; exact ⟨i, rfl, h⟩
theorem info24p : ∃ i, Try.prog.info? 24 = some i ∧ i.zero = some (.slice none 0 0) ∧ i.size = 1 ∧ i.bytes = 24 := by
  have h : (Try.prog.info? 24).map (fun i => (i.zero, i.size, i.bytes)) = some (some (.slice none 0 0), 1, 24) := by kernel_rfl
  cases hq : Try.prog.info? 24 with
  | none => simp [hq] at h
  | some i => simp [hq] at h; exact ⟨i, rfl, h⟩
theorem info25p : ∃ i, Try.prog.info? 25 = some i ∧ i.zero = some (.slice none 0 0) ∧ i.size = 1 ∧ i.bytes = 24 := by
  have h : (Try.prog.info? 25).map (fun i => (i.zero, i.size, i.bytes)) = some (some (.slice none 0 0), 1, 24) := by kernel_rfl
  cases hq : Try.prog.info? 25 with
  | none => simp [hq] at h
  | some i => simp [hq] at h; exact ⟨i, rfl, h⟩
/-- append of one element, which lies in a block just laid -/
theorem run_push {t ty e : TypeId} {z : Value} {bytes : Nat} (ht : Try.prog.underlying t = some (.slice e)) (hi : ∃ i, Try.prog.info? e = some i ∧ i.zero = some z ∧ i.size = 1 ∧ i.bytes = bytes) (hz : z.cells.size = 1) (hby : bytes ≤ 1000)
    (w : World) (base : Nat) (v : Value) (n : Nat) (xs : List Value) (hown : w.ownsRow base e 1 v n xs) (x : Value) (h1 : x.oneCell' = true) (hn : n ≤ 10000000) (hb : base ≤ w.heap.size) :
    ∃ A' c' w', (Builtin.append_ #[t, t] ty #[v, .slice (some ⟨w.heap.size, 0, none⟩) 1 1]).run Try.prog (w.alloc (.cells #[x] e)) = .ok (.slice A' (n + 1) c') w' ∧ w'.ownsRow base e 1 (.slice A' (n + 1) c') (n + 1) (xs ++ [x]) ∧
      w.grownBy w' v.ownBlock ∧ ((Value.slice A' (n + 1) c').ownBlock = v.ownBlock ∨ ∃ r, (Value.slice A' (n + 1) c').ownBlock = some r ∧ w.heap.size ≤ r) := by
  obtain ⟨i, hi, hz', hs, hb'⟩ := hi
  have hal : Below w.heap.size w (w.alloc (.cells #[x] e)) := (Below.refl _ _).alloc (Nat.le_refl _) _
  obtain ⟨v', w', hr, hown', hg, -, hw⟩ := run_append_own_at (P := Try.prog) (w.alloc (.cells #[x] e)) base t ty e i z 1 bytes ht hi hz' hs hb' hz (by omega) v n xs (owns_below hown hal) ⟨w.heap.size, 0, none⟩ 1 1 [x] rfl (cell_one_new _ _ _) (fun u hu => by simp at hu; rw [hu]; exact h1) (by unfold maxLen; omega)
    (by have : (n + 1) * bytes ≤ 10000001 * 1000 := Nat.mul_le_mul (by omega) hby
        omega) (by have := hal.size; omega)
  obtain ⟨A', c', rfl⟩ := owns_form hown'
  refine ⟨A', c', w', hr, hown', ?_, ?_⟩
  · have h2 := hg
    exact ⟨h2.os, h2.tape, h2.output, Nat.le_trans hal.size h2.size, fun k hk hne => (h2.block k (Nat.lt_of_lt_of_le hk hal.size) hne).trans (hal.block k hk)⟩
  · rcases hw with hw | hw
    · exact .inl hw
    · exact .inr ⟨_, hw, by simp⟩
theorem push_int (ty : TypeId) (t : TypeId) (ht : Try.prog.underlying t = some (.slice 3)) (w : World) (base : Nat) (v : Value) (xs : List Int) (h : OwnI base w v xs) (z : Int) (hx : xs.length ≤ 10000000) (hb : base ≤ w.heap.size) :
    ∃ A' c' w', (Builtin.append_ #[t, t] ty #[v, .slice (some ⟨w.heap.size, 0, none⟩) 1 1]).run Try.prog (w.alloc (.cells #[.int .i64 z] 3)) = .ok (.slice A' (xs.length + 1) c') w' ∧ OwnI base w' (.slice A' (xs.length + 1) c') (xs ++ [z]) ∧
      w.grownBy w' v.ownBlock ∧ ((Value.slice A' (xs.length + 1) c').ownBlock = v.ownBlock ∨ ∃ r, (Value.slice A' (xs.length + 1) c').ownBlock = some r ∧ w.heap.size ≤ r) := by
  obtain ⟨A', c', w', hr, ho, hg, hw⟩ := run_push (ty := ty) ht info3p rfl (by omega) w base v xs.length (ints xs) h (.int .i64 z) rfl hx hb
  refine ⟨A', c', w', hr, ?_, hg, hw⟩
  show w'.ownsRow base 3 1 _ (xs ++ [z]).length (ints (xs ++ [z]))
  rw [ints_app, List.length_append]
  exact ho
/-- the blocks of F are as they were -/
def Ag (F : Nat → Prop) (w w' : World) : Prop := ∀ k, F k → w'.heap[k]? = w.heap[k]?
theorem Ag.refl (F : Nat → Prop) (w : World) : Ag F w w := fun _ _ => rfl
theorem Ag.trans {F : Nat → Prop} {a b c : World} (h : Ag F a b) (k : Ag F b c) : Ag F a c := fun i hi => (k i hi).trans (h i hi)
theorem Ag.grown {F : Nat → Prop} {w w' : World} {row : Option Nat} (hg : w.grownBy w' row) (hF : ∀ k, F k → k < w.heap.size ∧ row ≠ some k) : Ag F w w' := fun k hk => hg.block k (hF k hk).1 (fun e => (hF k hk).2 e.symm)
theorem Ag.below {F : Nat → Prop} {w w' : World} (hb : Below w.heap.size w w') (hF : ∀ k, F k → k < w.heap.size) : Ag F w w' := fun k hk => hb.block k (hF k hk)
/-- u reads as x by the blocks of F -/
def IntsF (F : Nat → Prop) (w : World) (u : Value) (x : List Int) : Prop := ∀ w', Ag F w w' → IntsAt w' u x
theorem IntsF.at_ {F : Nat → Prop} {w : World} {u : Value} {x : List Int} (h : IntsF F w u x) : IntsAt w u x := h w (Ag.refl _ _)
theorem IntsF.keep {F : Nat → Prop} {w w' : World} {u : Value} {x : List Int} (h : IntsF F w u x) (ha : Ag F w w') : IntsF F w' u x := fun w'' h' => h w'' (ha.trans h')
theorem IntsF.mono {F G : Nat → Prop} {w : World} {u : Value} {x : List Int} (h : IntsF F w u x) (hg : ∀ k, F k → G k) : IntsF G w u x := fun w' h' => h w' fun k hk => h' k (hg k hk)
theorem IntsF.of_own {base : Nat} {w : World} {v : Value} {xs : List Int} (h : OwnI base w v xs) (hf : Fits xs) : IntsF (fun k => v.ownBlock = some k) w v xs := fun _w' hw => OwnI.ints (owns_keep h fun r hr => hw r hr) hf
theorem IntsF.of_at {w : World} {v : Value} {xs : List Int} (h : IntsAt w v xs) : IntsF (fun k => k < w.heap.size) w v xs := fun _w' hw => kept_ints _ _ _ _ (fun k hk => hw k hk) h
/-- the values vals read as the lists xs, by the blocks of F -/
def RowsF (F : Nat → Prop) (w : World) (vals : List Value) (xs : List (List Int)) : Prop := vals.length = xs.length ∧ ∀ j, j < xs.length → ∃ u, vals[j]? = some u ∧ IntsF F w u (xs.getD j [])
theorem RowsF.keep {F G : Nat → Prop} {w w' : World} {vals : List Value} {xs : List (List Int)} (h : RowsF F w vals xs) (ha : Ag F w w') (hg : ∀ k, F k → G k) : RowsF G w' vals xs :=
  ⟨h.1, fun j hj => let ⟨u, hu, hx⟩ := h.2 j hj; ⟨u, hu, (hx.keep ha).mono hg⟩⟩
theorem RowsF.nil (F : Nat → Prop) (w : World) : RowsF F w [] [] := ⟨rfl, fun j hj => absurd hj (by simp)⟩
theorem RowsF.snoc {F : Nat → Prop} {w : World} {vals : List Value} {xs : List (List Int)} (h : RowsF F w vals xs) {u : Value} {x : List Int} (hu : IntsF F w u x) : RowsF F w (vals ++ [u]) (xs ++ [x]) := by
  refine ⟨by simp [h.1], fun j hj => ?_⟩
  rcases Nat.lt_or_ge j xs.length with hl | hl
  · obtain ⟨u', h1, h2⟩ := h.2 j hl
    refine ⟨u', by rw [List.getElem?_append_left (by rw [h.1]; exact hl)]; exact h1, ?_⟩
    rw [show (xs ++ [x]).getD j [] = xs.getD j [] by simp [List.getD_eq_getElem?_getD, List.getElem?_append_left hl]]
    exact h2
  · obtain rfl : j = xs.length := by simp at hj; omega
    refine ⟨u, by rw [List.getElem?_append_right (by rw [h.1]; exact Nat.le_refl _), h.1]; simp, ?_⟩
    rw [show (xs ++ [x]).getD xs.length [] = x by simp [List.getD_eq_getElem?_getD]]
    exact hu
/-- v is a slice of rows of the call's own; its rows lie in F -/
def OwnT (e : TypeId) (base : Nat) (F : Nat → Prop) (w : World) (v : Value) (xs : List (List Int)) : Prop := ∃ vals, w.ownsRow base e 1 v xs.length vals ∧ RowsF F w vals xs
theorem OwnT.tab {e : TypeId} {base : Nat} {F : Nat → Prop} {w : World} {v : Value} {xs : List (List Int)} (h : OwnT e base F w v xs) : Tab w v xs := by
  obtain ⟨vals, h1, h2⟩ := h
  exact ⟨vals, sl_of_owns h1, h2.1, fun i hi => let ⟨u, hu, hx⟩ := h2.2 i hi; ⟨u, hu, hx.at_⟩⟩
theorem OwnT.form {e : TypeId} {base : Nat} {F : Nat → Prop} {w : World} {v : Value} {xs : List (List Int)} (h : OwnT e base F w v xs) : ∃ A c, v = .slice A xs.length c := let ⟨_, h1, _⟩ := h; owns_form h1
theorem OwnT.keep {e : TypeId} {base : Nat} {F G : Nat → Prop} {w w' : World} {v : Value} {xs : List (List Int)} (h : OwnT e base F w v xs) (hv : ∀ r, v.ownBlock = some r → w'.heap[r]? = w.heap[r]?) (ha : Ag F w w') (hg : ∀ k, F k → G k) : OwnT e base G w' v xs :=
  let ⟨vals, h1, h2⟩ := h; ⟨vals, owns_keep h1 hv, h2.keep ha hg⟩
theorem OwnT.below {e : TypeId} {base : Nat} {F : Nat → Prop} {w w' : World} {v : Value} {xs : List (List Int)} (h : OwnT e base F w v xs) (hb : Below w.heap.size w w') (hF : ∀ k, F k → k < w.heap.size) : OwnT e base F w' v xs :=
  let ⟨_vals, h1, _h2⟩ := h; h.keep (fun _r hr => hb.block _ (owns_lt h1 hr)) (Ag.below hb hF) fun _ h => h
/-- a row is appended -/
theorem push_row {t ty e : TypeId} (ht : Try.prog.underlying t = some (.slice e)) (hi : ∃ i, Try.prog.info? e = some i ∧ i.zero = some (.slice none 0 0) ∧ i.size = 1 ∧ i.bytes = 24) (w : World) (base : Nat) (F : Nat → Prop) (v : Value) (xs : List (List Int)) (h : OwnT e base F w v xs) (A : Option Addr) (n c : Nat) (x : List Int)
    (hx : IntsF F w (.slice A n c) x) (hF : ∀ k, F k → k < w.heap.size ∧ v.ownBlock ≠ some k) (hl : xs.length ≤ 10000000) (hb : base ≤ w.heap.size) :
    ∃ A' c' w', (Builtin.append_ #[t, t] ty #[v, .slice (some ⟨w.heap.size, 0, none⟩) 1 1]).run Try.prog (w.alloc (.cells #[.slice A n c] e)) = .ok (.slice A' (xs.length + 1) c') w' ∧ OwnT e base F w' (.slice A' (xs.length + 1) c') (xs ++ [x]) ∧
      w.grownBy w' v.ownBlock ∧ ((Value.slice A' (xs.length + 1) c').ownBlock = v.ownBlock ∨ ∃ r, (Value.slice A' (xs.length + 1) c').ownBlock = some r ∧ w.heap.size ≤ r) := by
  obtain ⟨vals, h1, h2⟩ := h
  obtain ⟨A', c', w', hr, ho, hg, hw⟩ := run_push (ty := ty) ht hi rfl (by omega) w base v xs.length vals h1 (.slice A n c) rfl hl hb
  refine ⟨A', c', w', hr, ⟨vals ++ [.slice A n c], ?_, ?_⟩, hg, hw⟩
  · rw [List.length_append]; exact ho
  · have ha := Ag.grown hg hF
    exact (h2.keep ha fun _ h => h).snoc (hx.keep ha)
end Go.Proofs
namespace Go.Proofs
open Go.RowKit Go.Shelf Go.Maps
theorem run_append_none (w : World) (base : Nat) (t ty e : TypeId) (i : TypeInfo) (ht : Try.prog.underlying t = some (.slice e)) (hi : Try.prog.info? e = some i) (_hs : i.size = 1)
    (v : Value) (n : Nat) (xs : List Value) (cap : Nat) (hown : w.ownsRow base e 1 v n xs) : (Builtin.append_ #[t, t] ty #[v, .slice none 0 cap]).run Try.prog w = .ok v w := by
  rcases hown.2 with ⟨rfl, rfl⟩ | ⟨g, cap', cur, rfl, -, hg, hnc, hcm, hcs, htake⟩
  · simp [Builtin.append_, run_underlying ht, sizeOf, typeInfo, hi, Builtin.lenOf, Builtin.firstCells]
  · simp [Builtin.append_, run_underlying ht, sizeOf, typeInfo, hi, Builtin.lenOf, Builtin.firstCells, hnc, storeCells]
/-- append(v, u...): v is of the call's own, u is read -/
theorem run_app {t ty e : TypeId} {z : Value} {bytes : Nat} (ht : Try.prog.underlying t = some (.slice e)) (hi : ∃ i, Try.prog.info? e = some i ∧ i.zero = some z ∧ i.size = 1 ∧ i.bytes = bytes) (hz : z.cells.size = 1) (hby : bytes ≤ 1000)
    (w : World) (base : Nat) (v : Value) (n : Nat) (xs : List Value) (hown : w.ownsRow base e 1 v n xs) (u : Value) (ys : List Value) (hu : Sl w u ys) (h1 : ∀ y ∈ ys, y.oneCell' = true) (hn : n ≤ 1000000) (hm : ys.length ≤ 1000000) (hb : base ≤ w.heap.size) :
    ∃ A' c' w', (Builtin.append_ #[t, t] ty #[v, u]).run Try.prog w = .ok (.slice A' (n + ys.length) c') w' ∧ w'.ownsRow base e 1 (.slice A' (n + ys.length) c') (n + ys.length) (xs ++ ys) ∧
      w.grownBy w' v.ownBlock ∧ ((Value.slice A' (n + ys.length) c').ownBlock = v.ownBlock ∨ ∃ r, (Value.slice A' (n + ys.length) c').ownBlock = some r ∧ w.heap.size ≤ r) := by
  obtain ⟨i, hi, hz', hs, hb'⟩ := hi
  obtain ⟨A, m, cap, rfl, hl, hc1, hc2, hcells⟩ := hu
  cases A with
  | none =>
    have hm0 : ys = [] := by
      rcases Nat.eq_zero_or_pos m with h0 | h0
      · exact List.length_eq_zero_iff.1 (by omega)
      · obtain ⟨_, _, h, -⟩ := hcells h0; cases h
    subst hm0
    obtain ⟨A', c', rfl⟩ := owns_form hown
    have hm1 : m = 0 := hl
    subst hm1
    exact ⟨A', c', w, run_append_none w base t ty e i ht hi hs _ n xs cap hown, by simpa using hown, World.grownBy.refl w _, .inl rfl⟩
  | some a =>
    obtain ⟨v', w', hr, hown', hg, -, hw⟩ := run_append_own_at (P := Try.prog) w base t ty e i z 1 bytes ht hi hz' hs hb' hz (by omega) v n xs hown a m cap ys (by omega) (fun j y hy => by
        have hj := (List.getElem?_eq_some_iff.1 hy).1
        obtain ⟨b, off, ha, hr⟩ := hcells (by omega)
        rw [Option.some.inj ha]
        have h3 := hr j y hy
        rcases Nat.eq_zero_or_pos j with h0 | h0
        · subst h0; simpa [Addr.add] using h3
        · simpa [Addr.add, show j ≠ 0 by omega] using h3) h1 (by unfold maxLen; omega)
      (by have : (n + m) * bytes ≤ 2000000 * 1000 := Nat.mul_le_mul (by omega) hby
          omega) hb
    obtain ⟨A', c', rfl⟩ := owns_form hown'
    have hm1 : m = ys.length := by omega
    subst hm1
    refine ⟨A', c', w', hr, hown', hg, ?_⟩
    rcases hw with hw | hw
    · exact .inl hw
    · exact .inr ⟨_, hw, Nat.le_refl _⟩
theorem app_ints (ty t : TypeId) (ht : Try.prog.underlying t = some (.slice 3)) (w : World) (base : Nat) (v : Value) (xs : List Int) (h : OwnI base w v xs) (u : Value) (ys : List Int) (hu : IntsAt w u ys) (hx : xs.length ≤ 1000000) (hy : ys.length ≤ 1000000) (hb : base ≤ w.heap.size) :
    ∃ A' c' w', (Builtin.append_ #[t, t] ty #[v, u]).run Try.prog w = .ok (.slice A' (xs ++ ys).length c') w' ∧ OwnI base w' (.slice A' (xs ++ ys).length c') (xs ++ ys) ∧
      w.grownBy w' v.ownBlock ∧ ((Value.slice A' (xs ++ ys).length c').ownBlock = v.ownBlock ∨ ∃ r, (Value.slice A' (xs ++ ys).length c').ownBlock = some r ∧ w.heap.size ≤ r) := by
  obtain ⟨A', c', w', hr, ho, hg, hw⟩ := run_app (ty := ty) ht info3p rfl (by omega) w base v xs.length (ints xs) h u (ints ys) hu.1 (fun y hy => by
    obtain ⟨z, -, rfl⟩ := List.mem_map.1 hy; rfl) hx (by rw [length_ints]; exact hy) hb
  rw [length_ints] at hr ho hw
  refine ⟨A', c', w', by rw [List.length_append]; exact hr, ?_, hg, by rw [List.length_append]; exact hw⟩
  show w'.ownsRow base 3 1 _ (xs ++ ys).length (ints (xs ++ ys))
  rw [ints_app, List.length_append]
  exact ho
end Go.Proofs
namespace Go.Proofs.Ct
def foldTo {α : Type} (f : Nat → α → α) : Nat → α → α
  | 0, x => x
  | k + 1, x => f k (foldTo f k x)
theorem foldTo_inv {α : Type} {f : Nat → α → α} {p : Nat → α → Prop} {x : α} (h0 : p 0 x) : ∀ (n : Nat) (_ : ∀ k x, k < n → p k x → p (k + 1) (f k x)), p n (foldTo f n x)
  | 0, _ => h0
  | n + 1, hf => hf n _ (Nat.lt_succ_self n) (foldTo_inv h0 n (fun k x hk hx => hf k x (Nat.lt_succ_of_lt hk) hx))
abbrev Tb := List (List Int)
def Tb.row (t : Tb) (r : Nat) : List Int := t.getD r []
def Tb.at (t : Tb) (r c : Nat) : Int := (t.row r).getD c 0
/-- the first k below n with p -/
def first (p : Nat → Bool) (n : Nat) : Option Nat := (List.range n).find? p
theorem first_some {p : Nat → Bool} {n k : Nat} (hk : k < n) (hp : p k = true) (hb : ∀ j, j < k → p j = false) : first p n = some k := by
  unfold first
  rw [List.find?_range_eq_some]
  exact ⟨hp, by simpa using hk, fun j hj => by simp [hb j hj]⟩
theorem first_none {p : Nat → Bool} {n : Nat} (hb : ∀ j, j < n → p j = false) : first p n = none := by
  unfold first
  rw [List.find?_eq_none]
  intro x hx
  simp [hb x (by simpa using hx)]
theorem first_none' {p : Nat → Bool} {n : Nat} (h : first p n = none) : ∀ j, j < n → p j = false := by
  intro j hj
  unfold first at h
  rw [List.find?_eq_none] at h
  simpa using h j (by simpa using hj)
theorem first_some' {p : Nat → Bool} {n k : Nat} (h : first p n = some k) : k < n ∧ p k = true ∧ ∀ j, j < k → p j = false := by
  unfold first at h
  rw [List.find?_range_eq_some] at h
  exact ⟨by simpa using h.2.1, h.1, fun j hj => by simpa using h.2.2 j hj⟩
/-- an element out of range -/
def outB (n : Int) (s : Int) : Bool := decide (s < -1) || decide (n ≤ s)
theorem outB_false {n s : Int} : outB n s = false ↔ -1 ≤ s ∧ s < n := by
  unfold outB
  rw [Bool.or_eq_false_iff, decide_eq_false_iff_not, decide_eq_false_iff_not]
  omega
def rowOut (n : Int) (row : List Int) : Bool := row.any (outB n)
def rowBad (g n : Int) (row : List Int) : Bool := decide ((row.length : Int) ≠ 2 * g) || rowOut n row
/-- the column of the inverse letter -/
def flp (c : Nat) : Nat := if c % 2 = 0 then c + 1 else c - 1
def sumAt (t : Tb) (r c : Nat) : Bool := decide (0 ≤ t.at r c) && decide (t.at (t.at r c).toNat (flp c) ≠ (r : Int))
def sumBad (t : Tb) (m : Nat) (r : Nat) : Bool := (List.range m).any (sumAt t r)
def wide (g : Int) (t : Tb) : Bool := decide (g < 1) || decide (16 < g) || decide (t.length < 1) || decide (20000 < t.length)
def check (g : Int) (t : Tb) : Int × Int :=
  if wide g t then (2, -1) else
  match first (fun r => rowBad g t.length (t.row r)) t.length with
  | some r => (if ((t.row r).length : Int) ≠ 2 * g then 3 else 2, r)
  | none => match first (sumBad t (2 * g).toNat) t.length with
    | some r => (14, r)
    | none => (0, -1)
structure TGood (g : Nat) (t : Tb) : Prop where
  g1 : 1 ≤ g
  g16 : g ≤ 16
  n1 : 1 ≤ t.length
  n2 : t.length ≤ 20000
  len : ∀ r, r < t.length → (t.row r).length = 2 * g
  bd : ∀ r, r < t.length → ∀ c, c < 2 * g → -1 ≤ t.at r c ∧ t.at r c < t.length
  back : ∀ r, r < t.length → ∀ c, c < 2 * g → 0 ≤ t.at r c → t.at (t.at r c).toNat (flp c) = r
theorem rowOut_false {n : Int} {row : List Int} (h : rowOut n row = false) : ∀ c, c < row.length → -1 ≤ row.getD c 0 ∧ row.getD c 0 < n := by
  intro c hc
  unfold rowOut at h
  rw [List.any_eq_false] at h
  have := h (row.getD c 0) (by rw [List.getD_eq_getElem?_getD, List.getElem?_eq_getElem hc]; exact List.getElem_mem hc)
  rw [Bool.not_eq_true] at this
  exact outB_false.1 this
theorem rowOut_false' {n : Int} {row : List Int} (h : ∀ c, c < row.length → -1 ≤ row.getD c 0 ∧ row.getD c 0 < n) : rowOut n row = false := by
  unfold rowOut
  rw [List.any_eq_false]
  intro x hx
  obtain ⟨c, hc, rfl⟩ := List.mem_iff_getElem.1 hx
  have := h c hc
  rw [List.getD_eq_getElem?_getD, List.getElem?_eq_getElem hc] at this
  rw [Bool.not_eq_true]
  exact outB_false.2 this
theorem rowOut_true {n : Int} {row : List Int} {c : Nat} (hc : c < row.length) (h : row.getD c 0 < -1 ∨ n ≤ row.getD c 0) : rowOut n row = true := by
  rcases hb : rowOut n row with _ | _
  · have := rowOut_false hb c hc
    omega
  · rfl
theorem check_good {g : Int} {t : Tb} (h : (check g t).1 = 0) : 0 ≤ g ∧ TGood g.toNat t ∧ check g t = (0, -1) := by
  unfold check at h ⊢
  rcases hw : wide g t with _ | _
  · rw [hw] at h
    simp only [Bool.false_eq_true, if_false] at h ⊢
    rcases h1 : first (fun r => rowBad g t.length (t.row r)) t.length with _ | r
    · rw [h1] at h
      simp only at h ⊢
      rcases h2 : first (sumBad t (2 * g).toNat) t.length with _ | r
      · simp [wide] at hw
        have hl : ∀ r, r < t.length → (t.row r).length = 2 * g.toNat := fun r hr => by
          have := first_none' h1 r hr
          simp [rowBad] at this
          omega
        have hn : 1 ≤ t.length := by
          rcases Nat.eq_zero_or_pos t.length with h0 | h0
          · exact absurd (List.length_eq_zero_iff.1 h0) (by simpa using hw.1.2)
          · exact h0
        refine ⟨by omega, ⟨by omega, by omega, hn, by omega, hl, ?_, ?_⟩, by simp⟩
        · intro r hr c hc
          have := first_none' h1 r hr
          simp [rowBad] at this
          exact rowOut_false this.2 c (by rw [hl r hr]; exact hc)
        · intro r hr c hc h0
          have := first_none' h2 r hr
          unfold sumBad at this
          rw [List.any_eq_false] at this
          have := this c (by simp; omega)
          simp [sumAt] at this
          exact this h0
      · rw [h2] at h
        simp at h
    · rw [h1] at h
      simp only at h
      split at h <;> simp at h
  · rw [hw] at h
    simp at h
theorem check_of_good {g : Nat} {t : Tb} (h : TGood g t) : check g t = (0, -1) := by
  have hw : wide g t = false := by
    have := h.g1; have := h.g16; have := h.n1; have := h.n2
    unfold wide
    simp only [Bool.or_eq_false_iff, decide_eq_false_iff_not]
    omega
  have h1 : first (fun r => rowBad g t.length (t.row r)) t.length = none := first_none fun r hr => by
    have hl := h.len r hr
    simp [rowBad, hl]
    exact rowOut_false' fun c hc => h.bd r hr c (by omega)
  have h2 : first (sumBad t (2 * (g : Int)).toNat) t.length = none := first_none fun r hr => by
    unfold sumBad
    rw [List.any_eq_false]
    intro c hc
    have hc' : c < 2 * g := by simp at hc; omega
    simp [sumAt]
    exact h.back r hr c hc'
  unfold check
  rw [hw, h1, h2]
  rfl
theorem sumBad_true {t : Tb} {m r c : Nat} (hc : c < m) (h : sumAt t r c = true) : sumBad t m r = true := by
  unfold sumBad
  rw [List.any_eq_true]
  exact ⟨c, by simpa using hc, h⟩
theorem sumBad_false {t : Tb} {m r : Nat} (h : ∀ c, c < m → sumAt t r c = false) : sumBad t m r = false := by
  unfold sumBad
  rw [List.any_eq_false]
  intro c hc
  simp [h c (by simpa using hc)]
/-- The order in which the cosets are met, and their numbers. -/
def visit (l : List Int) (s : Int) : List Int := if decide (s < 0) || l.contains s then l else l ++ [s]
def visitTo (row : List Int) (c : Nat) (l : List Int) : List Int := foldTo (fun c l => visit l (row.getD c 0)) c l
def ordTo (t : Tb) (b : Int) : Nat → List Int
  | 0 => [b]
  | k + 1 => if k < (ordTo t b k).length then visitTo (t.row ((ordTo t b k).getD k 0).toNat) (t.row ((ordTo t b k).getD k 0).toNat).length (ordTo t b k) else ordTo t b k
def ord (t : Tb) (b : Int) : List Int := ordTo t b t.length
def numOf (l : List Int) (x : Int) : Int := (l.idxOf x : Int)
def neg (row : List Int) : Bool := row.any fun s => decide (s < 0)
def std (t : Tb) (b : Int) : Option Tb :=
  if (ord t b).length = t.length ∧ t.any neg = false then some ((ord t b).map fun r => (t.row r.toNat).map (numOf (ord t b))) else none
def complete (t : Tb) : Bool := !(t.any fun row => row.contains (-1))
def stdE (g : Int) (t : Tb) (b : Int) : Tb × Int :=
  if (check g t).1 ≠ 0 then ([], (check g t).1) else
  if b < 0 ∨ (t.length : Int) ≤ b then ([], 2) else
  match std t b with | none => ([], 13) | some s => (s, 0)
def letter (c : Nat) : Int := if c % 2 = 1 then -((c / 2 : Nat) + 1) else (c / 2 : Nat) + 1
abbrev W := List Int
def repCol (t : Tb) (r c : Nat) (out : List W) : List W := if t.at r c = (out.length : Int) then out ++ [out.getD r [] ++ [letter c]] else out
def repRow (t : Tb) (r : Nat) (out : List W) : List W := foldTo (repCol t r) (t.row r).length out
def reps (t : Tb) : List W := foldTo (repRow t) t.length [[]]
def repsE (g : Int) (t : Tb) : List W × Int :=
  if (check g t).1 ≠ 0 then ([], (check g t).1) else if std t 0 = some t then (reps t, 0) else ([], 13)
end Go.Proofs.Ct
namespace Go.Proofs.Ct
theorem visit_pre (l : List Int) (s : Int) : l <+: visit l s := by
  unfold visit
  split
  · exact List.prefix_refl _
  · exact List.prefix_append _ _
theorem visitTo_pre (row : List Int) (c : Nat) (l : List Int) : l <+: visitTo row c l := by
  induction c with
  | zero => exact List.prefix_refl _
  | succ c ih => exact ih.trans (visit_pre _ _)
theorem visitTo_mono (row : List Int) {c d : Nat} (h : c ≤ d) (l : List Int) : visitTo row c l <+: visitTo row d l := by
  obtain ⟨e, rfl⟩ := Nat.exists_eq_add_of_le h
  clear h
  induction e with
  | zero => exact List.prefix_refl _
  | succ e ih => exact ih.trans (visit_pre _ _)
theorem ordTo_pre (t : Tb) (b : Int) (k : Nat) : ordTo t b k <+: ordTo t b (k + 1) := by
  rw [ordTo]
  split
  · exact visitTo_pre _ _ _
  · exact List.prefix_refl _
theorem ordTo_mono (t : Tb) (b : Int) {k m : Nat} (h : k ≤ m) : ordTo t b k <+: ordTo t b m := by
  obtain ⟨e, rfl⟩ := Nat.exists_eq_add_of_le h
  clear h
  induction e with
  | zero => exact List.prefix_refl _
  | succ e ih => exact ih.trans (ordTo_pre _ _ _)
theorem ordTo_stable (t : Tb) (b : Int) {k : Nat} (h : (ordTo t b k).length ≤ k) {m : Nat} (hm : k ≤ m) : ordTo t b m = ordTo t b k := by
  obtain ⟨e, rfl⟩ := Nat.exists_eq_add_of_le hm
  clear hm
  induction e with
  | zero => rfl
  | succ e ih =>
    rw [← Nat.add_assoc, ordTo, ih, if_neg (by omega)]
/-- a list of cosets below n, without repeats -/
structure Cos (n : Nat) (l : List Int) : Prop where
  nd : l.Nodup
  bd : ∀ x ∈ l, 0 ≤ x ∧ x < n
theorem Cos.visit {n : Nat} {l : List Int} (h : Cos n l) {s : Int} (hs : s < n) : Cos n (visit l s) := by
  unfold Ct.visit
  split
  · exact h
  · rename_i hc
    simp at hc
    refine ⟨List.nodup_append.2 ⟨h.nd, by simp, fun a ha b hb => ?_⟩, fun x hx => ?_⟩
    · simp at hb
      subst hb
      intro e
      subst e
      exact hc.2 ha
    · rw [List.mem_append] at hx
      rcases hx with hx | hx
      · exact h.bd x hx
      · simp at hx
        subst hx
        exact ⟨hc.1, hs⟩
theorem Cos.visitTo {n : Nat} {row : List Int} (hr : ∀ c, c < row.length → row.getD c 0 < n) {l : List Int} (h : Cos n l) : ∀ {c : Nat}, c ≤ row.length → Cos n (visitTo row c l)
  | 0, _ => h
  | c + 1, hc => (Cos.visitTo hr h (by omega)).visit (hr c (by omega))
theorem Cos.get {n : Nat} {l : List Int} (h : Cos n l) {k : Nat} (hk : k < l.length) : 0 ≤ l.getD k 0 ∧ l.getD k 0 < n := by
  rw [List.getD_eq_getElem?_getD, List.getElem?_eq_getElem hk]
  exact h.bd _ (List.getElem_mem hk)
theorem TGood.lt {g : Nat} {t : Tb} (h : TGood g t) {r : Nat} (hr : r < t.length) : ∀ c, c < (t.row r).length → (t.row r).getD c 0 < t.length := fun c hc => by
  rw [h.len r hr] at hc
  exact (h.bd r hr c hc).2
theorem Cos.ordTo {g : Nat} {t : Tb} (hg : TGood g t) {b : Int} (hb : 0 ≤ b) (hb' : b < t.length) : ∀ k, Cos t.length (ordTo t b k)
  | 0 => ⟨by simp [Ct.ordTo], fun x hx => by
      simp [Ct.ordTo] at hx
      subst hx
      exact ⟨hb, hb'⟩⟩
  | k + 1 => by
    have ih := Cos.ordTo hg hb hb' k
    rw [Ct.ordTo]
    split
    · rename_i hk
      have hx := ih.get hk
      exact ih.visitTo (hg.lt (by omega)) (Nat.le_refl _)
    · exact ih
theorem length_le_of_nodup : ∀ {n : Nat} {l : List Int}, Cos n l → l.length ≤ n
  | 0, l, h => by
    rcases l with _ | ⟨x, l⟩
    · simp
    · have := h.bd x (by simp)
      omega
  | n + 1, l, h => by
    have h1 : Cos n (l.erase n) := ⟨h.nd.erase _, fun x hx => by
      have h2 := (List.Nodup.mem_erase_iff h.nd).1 hx
      have h3 := h.bd x h2.2
      have : x ≠ (n : Int) := h2.1
      omega⟩
    have h4 := length_le_of_nodup h1
    rw [List.length_erase] at h4
    split at h4 <;> omega
theorem mem_of_full : ∀ {n : Nat} {l : List Int}, Cos n l → l.length = n → ∀ r : Nat, r < n → (r : Int) ∈ l := by
  intro n l h hl r hr
  by_cases hm : (r : Int) ∈ l
  · exact hm
  · exfalso
    -- r is left out: the others, with r's place taken by n - 1, are below n - 1
    have h1 : Cos n ((r : Int) :: l) := ⟨List.nodup_cons.2 ⟨hm, h.nd⟩, fun x hx => by
      rcases List.mem_cons.1 hx with rfl | hx
      · exact ⟨by omega, by omega⟩
      · exact h.bd x hx⟩
    have := length_le_of_nodup h1
    simp at this
    omega
theorem idxOf_pre {l o : List Int} (h : l <+: o) {x : Int} (hx : x ∈ l) : numOf o x = numOf l x := by
  obtain ⟨m, rfl⟩ := h
  unfold numOf
  rw [List.idxOf_append, if_pos hx]
theorem numOf_new {l o : List Int} {x : Int} (hx : x ∉ l) (h : l ++ [x] <+: o) : numOf o x = l.length := by
  obtain ⟨m, rfl⟩ := h
  unfold numOf
  rw [List.idxOf_append, if_pos (by simp), List.idxOf_append, if_neg hx]
  simp
theorem mem_visit {l : List Int} {s : Int} (h : 0 ≤ s) : s ∈ visit l s := by
  unfold visit
  split
  · rename_i hc
    simp at hc
    rcases hc with hc | hc
    · omega
    · exact hc
  · simp
theorem mem_visitTo {row : List Int} {c d : Nat} (h : c < d) (h0 : 0 ≤ row.getD c 0) (l : List Int) : row.getD c 0 ∈ visitTo row d l :=
  (visitTo_mono row (by omega : c + 1 ≤ d) l).subset (mem_visit h0)
def iota (m : Nat) : List Int := (List.range m).map Int.ofNat
theorem length_iota (m : Nat) : (iota m).length = m := by simp [iota]
theorem iota_succ (m : Nat) : iota (m + 1) = iota m ++ [(m : Int)] := by simp [iota, List.range_succ]
theorem iota_getD {m k : Nat} (h : k < m) : (iota m).getD k 0 = k := by simp [iota, List.getD_eq_getElem?_getD, h]
theorem mem_iota {m : Nat} {x : Int} : x ∈ iota m ↔ 0 ≤ x ∧ x < m := by
  simp [iota]
  constructor
  · rintro ⟨a, h1, rfl⟩; omega
  · rintro ⟨h1, h2⟩; exact ⟨x.toNat, by omega, by omega⟩
structure Std (t : Tb) : Prop where
  full : (ord t 0).length = t.length
  pos : ∀ r, r < t.length → ∀ c, c < (t.row r).length → 0 ≤ t.at r c
  num : ∀ r, r < t.length → ∀ c, c < (t.row ((ord t 0).getD r 0).toNat).length → numOf (ord t 0) (t.at ((ord t 0).getD r 0).toNat c) = t.at r c
theorem row_of_mem {t : Tb} {r : Nat} (hr : r < t.length) : t.row r ∈ t := by
  unfold Tb.row
  rw [List.getD_eq_getElem?_getD, List.getElem?_eq_getElem hr]
  exact List.getElem_mem hr
theorem no_neg {t : Tb} (h : t.any neg = false) : ∀ r, r < t.length → ∀ c, c < (t.row r).length → 0 ≤ t.at r c := by
  intro r hr c hc
  rw [List.any_eq_false] at h
  have h1 := h _ (row_of_mem hr)
  unfold neg at h1
  have h2 : ((t.row r).any fun s => decide (s < 0)) = false := by simpa using h1
  rw [List.any_eq_false] at h2
  have := h2 (t.at r c) (by
    unfold Tb.at
    rw [List.getD_eq_getElem?_getD, List.getElem?_eq_getElem hc]
    exact List.getElem_mem hc)
  simp at this
  omega
theorem std_iff {t : Tb} (h : std t 0 = some t) : Std t := by
  unfold std at h
  split at h
  · rename_i hc
    refine ⟨hc.1, no_neg hc.2, fun r hr c hcl => ?_⟩
    have he : (ord t 0).map (fun r => (t.row r.toNat).map (numOf (ord t 0))) = t := by simpa using h
    have h1 : t.row r = (t.row ((ord t 0).getD r 0).toNat).map (numOf (ord t 0)) := by
      conv => lhs; rw [← he]
      unfold Tb.row
      rw [List.getD_eq_getElem?_getD, List.getElem?_map, List.getElem?_eq_getElem (by omega : r < (ord t 0).length)]
      simp [List.getD_eq_getElem?_getD, List.getElem?_eq_getElem (by omega : r < (ord t 0).length)]
    unfold Tb.at
    rw [h1]
    have h2 : ∀ (l : List Int) (f : Int → Int), c < l.length → f (l.getD c 0) = (l.map f).getD c 0 := fun l f hl => by
      simp [List.getD_eq_getElem?_getD, hl]
    exact h2 _ _ hcl
  · simp at h
theorem pre_get {l o : List Int} (h : l <+: o) {k : Nat} (hk : k < l.length) : o.getD k 0 = l.getD k 0 := by
  obtain ⟨m, rfl⟩ := h
  simp [List.getD_eq_getElem?_getD, List.getElem?_append, hk]
/-- At row r, with c columns done: the order is 0 .. m-1, and m words are laid, each no longer than its number. -/
structure RepAt (t : Tb) (l : List Int) (out : List W) (m : Nat) : Prop where
  od : l = iota m
  ol : out.length = m
  le : m ≤ t.length
  wl : ∀ j, j < m → (out.getD j []).length ≤ j
theorem rep_row {g : Nat} {t : Tb} (hg : TGood g t) (hs : Std t) {r m : Nat} (hr : r < t.length) (hrm : r < m) {out : List W} (hl : ordTo t 0 r = iota m) (h : RepAt t (iota m) out m) :
    ∀ c, c ≤ 2 * g → ∃ m', m ≤ m' ∧ RepAt t (visitTo (t.row r) c (iota m)) (foldTo (repCol t r) c out) m' := by
  intro c
  induction c with
  | zero => exact fun _ => ⟨m, Nat.le_refl _, h⟩
  | succ c ih =>
    intro hc
    obtain ⟨m', hm', hR⟩ := ih (by omega)
    have hlen := hg.len r hr
    have hpre0 : ordTo t 0 (r + 1) <+: ord t 0 := ordTo_mono t 0 (by omega)
    have h0 : (ordTo t 0 r).getD r 0 = r := by rw [hl, iota_getD hrm]
    have hpre : visitTo (t.row r) (2 * g) (iota m) <+: ord t 0 := by
      have := hpre0
      rw [ordTo, hl, if_pos (by rw [length_iota]; exact hrm), iota_getD hrm] at this
      simpa [hlen] using this
    have hor : (ord t 0).getD r 0 = r := by
      rw [show ord t 0 = ordTo t 0 t.length from rfl, pre_get (ordTo_mono t 0 (by omega : r ≤ t.length)) (by rw [hl, length_iota]; exact hrm), h0]
    have hnum := hs.num r hr c (by rw [hor]; simp [hlen]; omega)
    rw [hor] at hnum
    simp only [Int.toNat_natCast] at hnum
    have hp := hs.pos r hr c (by omega)
    have hstep : visitTo (t.row r) (c + 1) (iota m) = visit (visitTo (t.row r) c (iota m)) (t.at r c) := rfl
    have hpc : visit (visitTo (t.row r) c (iota m)) (t.at r c) <+: ord t 0 := by rw [← hstep]; exact (visitTo_mono _ (by omega : c + 1 ≤ 2 * g) _).trans hpre
    show ∃ m'', m ≤ m'' ∧ RepAt t (visit (visitTo (t.row r) c (iota m)) (t.at r c)) (repCol t r c (foldTo (repCol t r) c out)) m''
    rw [hR.od] at hpc ⊢
    by_cases hin : t.at r c ∈ iota m'
    · refine ⟨m', hm', ?_⟩
      have hv : visit (iota m') (t.at r c) = iota m' := by unfold visit; simp [hin]
      have hb := mem_iota.1 hin
      have hc2 : repCol t r c (foldTo (repCol t r) c out) = foldTo (repCol t r) c out := if_neg (by rw [hR.ol]; omega)
      rw [hv, hc2]
      exact ⟨rfl, hR.ol, hR.le, hR.wl⟩
    · refine ⟨m' + 1, by omega, ?_⟩
      have hv : visit (iota m') (t.at r c) = iota m' ++ [t.at r c] := by unfold visit; simp [hin]; omega
      rw [hv] at hpc ⊢
      have hn := numOf_new hin hpc
      rw [hnum, length_iota] at hn
      have hc2 : repCol t r c (foldTo (repCol t r) c out) = foldTo (repCol t r) c out ++ [(foldTo (repCol t r) c out).getD r [] ++ [letter c]] := if_pos (by rw [hR.ol]; exact hn)
      rw [hc2, hn]
      have hlt := (hg.bd r hr c (by omega)).2
      refine ⟨(iota_succ m').symm, by simp [hR.ol], by omega, fun j hj => ?_⟩
      rcases Nat.lt_or_ge j m' with h1 | h1
      · have : ((foldTo (repCol t r) c out) ++ [(foldTo (repCol t r) c out).getD r [] ++ [letter c]]).getD j [] = (foldTo (repCol t r) c out).getD j [] := by
          simp [List.getD_eq_getElem?_getD, List.getElem?_append, hR.ol, h1]
        rw [this]
        exact hR.wl j h1
      · obtain rfl : j = m' := by omega
        have : ((foldTo (repCol t r) c out) ++ [(foldTo (repCol t r) c out).getD r [] ++ [letter c]]).getD j [] = (foldTo (repCol t r) c out).getD r [] ++ [letter c] := by
          simp [List.getD_eq_getElem?_getD, hR.ol]
        rw [this]
        have := hR.wl r (by omega)
        simp only [List.length_append, List.length_singleton]
        omega
theorem rep_at {g : Nat} {t : Tb} (hg : TGood g t) (hs : Std t) : ∀ r, r ≤ t.length → ∃ m, (r < t.length → r < m) ∧ ordTo t 0 r = iota m ∧ RepAt t (iota m) (foldTo (repRow t) r [[]]) m := by
  intro r
  have hlow : ∀ r m, r < t.length → ordTo t 0 r = iota m → r < m := fun r m hr hm => by
    rcases Nat.lt_or_ge r m with h | h
    · exact h
    · have h1 : (ordTo t 0 r).length ≤ r := by rw [hm, length_iota]; exact h
      have h2 := ordTo_stable t 0 h1 (by omega : r ≤ t.length)
      have h3 := hs.full
      unfold ord at h3
      rw [h2] at h3
      omega
  induction r with
  | zero =>
    intro _
    refine ⟨1, fun _ => by omega, rfl, rfl, rfl, hg.n1, fun j hj => ?_⟩
    obtain rfl : j = 0 := by omega
    simp [foldTo]
  | succ r ih =>
    intro hr
    obtain ⟨m, hm, ho, hR⟩ := ih (by omega)
    have hrm := hm (by omega)
    obtain ⟨m', hm', hR'⟩ := rep_row hg hs (by omega : r < t.length) hrm ho hR (2 * g) (Nat.le_refl _)
    have hlen := hg.len r (by omega)
    have hstep : ordTo t 0 (r + 1) = visitTo (t.row r) (2 * g) (iota m) := by
      rw [ordTo, ho, if_pos (by rw [length_iota]; exact hrm), iota_getD hrm]
      simp [hlen]
    have hfold : foldTo (repRow t) (r + 1) [[]] = foldTo (repCol t r) (2 * g) (foldTo (repRow t) r [[]]) := by
      show repRow t r (foldTo (repRow t) r [[]]) = _
      unfold repRow
      rw [hlen]
    refine ⟨m', fun h => hlow (r + 1) m' h (by rw [hstep]; exact hR'.od), by rw [hstep]; exact hR'.od, ?_⟩
    rw [hfold]
    exact ⟨rfl, hR'.ol, hR'.le, hR'.wl⟩
theorem reps_length {g : Nat} {t : Tb} (hg : TGood g t) (hs : Std t) : (reps t).length = t.length ∧ ∀ j, j < t.length → ((reps t).getD j []).length ≤ j := by
  obtain ⟨m, _, ho, hR⟩ := rep_at hg hs t.length (Nat.le_refl _)
  have h3 := hs.full
  unfold ord at h3
  rw [ho, length_iota] at h3
  subst h3
  exact ⟨hR.ol, hR.wl⟩
end Go.Proofs.Ct
namespace Go.Proofs.Ct
def opp (x y : Int) : Bool := decide (x ≠ 0) && decide (y = -x)
def push (st : W) (x : Int) : W := if decide (0 < st.length) && opp (st.getD (st.length - 1) 0) x then st.take (st.length - 1) else st ++ [x]
def redTo (w : W) (k : Nat) : W := foldTo (fun k st => push st (w.getD k 0)) k []
def red (w : W) : W := redTo w w.length
def inv (w : W) : W := w.reverse.map fun x => -x
def invW (a : W) : W := red (inv a)
theorem length_inv (w : W) : (inv w).length = w.length := by simp [inv]
theorem mem_inv {w : W} {y : Int} (h : y ∈ inv w) : -y ∈ w := by
  simp [inv] at h
  obtain ⟨a, ha, rfl⟩ := h
  simpa using ha
def dest (t : Tb) (r : Nat) (g : Nat) : Nat := (t.at r (2 * g)).toNat
/-- no tree edge: the coset r and the generator g + 1 -/
def nt (t : Tb) (R : List W) (r g : Nat) : Bool :=
  !(decide (R.getD (dest t r g) [] = R.getD r [] ++ [((g + 1 : Nat) : Int)])) && !(decide (R.getD r [] = R.getD (dest t r g) [] ++ [-((g + 1 : Nat) : Int)]))
def pairRow (t : Tb) (R : List W) (r : Nat) (g : Nat) (l : List (Nat × Nat)) : List (Nat × Nat) := foldTo (fun g l => if nt t R r g then l ++ [(r, g)] else l) g l
def pairTo (t : Tb) (R : List W) (gens r : Nat) : List (Nat × Nat) := foldTo (fun r l => pairRow t R r gens l) r []
/-- the number of a pair: the pairs up to it -/
def number (t : Tb) (R : List W) (gens r g : Nat) : Int := if nt t R r g then (pairRow t R r (g + 1) (pairTo t R gens r)).length else 0
end Go.Proofs.Ct
namespace Go.Proofs.Ct
def placeP (ps : List (Nat × Nat)) (r g : Nat) : Int := if (r, g) ∈ ps then (ps.idxOf (r, g) : Int) + 1 else 0
end Go.Proofs.Ct
namespace Go.Proofs.Ct
theorem mem_repCol {t : Tb} {r c : Nat} {out : List W} {w : W} (h : w ∈ repCol t r c out) : w ∈ out ∨ w = out.getD r [] ++ [letter c] := by
  unfold repCol at h
  split at h
  · simpa using h
  · exact .inl h
theorem getD_mem_or {out : List W} {r : Nat} : out.getD r [] ∈ out ∨ out.getD r [] = [] := by
  rw [List.getD_eq_getElem?_getD]
  rcases Nat.lt_or_ge r out.length with h | h
  · rw [List.getElem?_eq_getElem h]; exact .inl (List.getElem_mem h)
  · rw [List.getElem?_eq_none h]; exact .inr rfl
def Lets (N : Nat) (out : List W) : Prop := ∀ w ∈ out, ∀ x ∈ w, ∃ c, c < N ∧ x = letter c
theorem Lets.col {t : Tb} {N r c : Nat} {out : List W} (h : Lets N out) (hc : c < N) : Lets N (repCol t r c out) := fun w hw x hx => by
  rcases mem_repCol hw with hw | rfl
  · exact h w hw x hx
  · rcases List.mem_append.1 hx with hx | hx
    · rcases @getD_mem_or out r with h1 | h1
      · exact h _ h1 x hx
      · rw [h1] at hx; cases hx
    · exact ⟨c, hc, by simpa using hx⟩
theorem Lets.row {t : Tb} {N r : Nat} {out : List W} (h : Lets N out) (hl : (t.row r).length ≤ N) : Lets N (repRow t r out) :=
  foldTo_inv (p := fun _ out => Lets N out) h _ fun c x hc hx => hx.col (by omega)
theorem reps_lets {g : Nat} {t : Tb} (hg : TGood g t) : Lets (2 * g) (reps t) :=
  foldTo_inv (p := fun _ out => Lets (2 * g) out) (fun w hw x hx => by
    have : w = [] := by simpa using hw
    subst this; cases hx) _ fun r x hr hx => hx.row (by rw [hg.len r hr]; exact Nat.le_refl _)
theorem letter_range {g c : Nat} (h : c < 2 * g) : -(g : Int) ≤ letter c ∧ letter c ≤ g ∧ letter c ≠ 0 := by
  unfold letter
  split <;> omega
theorem reps_letter {g : Nat} {t : Tb} (hg : TGood g t) (j : Nat) : ∀ x ∈ (reps t).getD j [], -(g : Int) ≤ x ∧ x ≤ g ∧ x ≠ 0 := fun x hx => by
  rcases @getD_mem_or (reps t) j with h | h
  · obtain ⟨c, hc, rfl⟩ := reps_lets hg _ h x hx
    exact letter_range hc
  · rw [h] at hx; cases hx
end Go.Proofs.Ct
namespace Go.Proofs.Ct
/-- the column of a letter -/
def col (x : Int) : Nat := if 0 < x then (2 * x - 2).toNat else (-2 * x - 1).toNat
/-- where a word leads; -1: nowhere -/
def leadTo (t : Tb) (r : Int) (w : W) (k : Nat) : Int := foldTo (fun k r => if r < 0 then r else t.at r.toNat (col (w.getD k 0))) k r
def leads (t : Tb) (r : Int) (w : W) : Int := leadTo t r w w.length
/-- all words of a list lead from r to r -/
def staysB (t : Tb) (r : Int) (l : List W) : Bool := l.all fun w => decide (leads t r w = r)
def holdsB (rels sub : List W) (t : Tb) : Bool := complete t && staysB t 0 sub && (List.range t.length).all fun r => staysB t (r : Int) rels
theorem leadTo_succ (t : Tb) (r : Int) (w : W) (k : Nat) : leadTo t r w (k + 1) = if leadTo t r w k < 0 then leadTo t r w k else t.at (leadTo t r w k).toNat (col (w.getD k 0)) := rfl
theorem leadTo_neg {t : Tb} {r : Int} {w : W} {k : Nat} (h : leadTo t r w k < 0) : ∀ m, leadTo t r w (k + m) = leadTo t r w k
  | 0 => rfl
  | m + 1 => by
    have := leadTo_neg h m
    rw [← Nat.add_assoc, leadTo_succ, this, if_pos h]
theorem leads_neg {t : Tb} {r : Int} {w : W} {k : Nat} (hk : k ≤ w.length) (h : leadTo t r w k < 0) : leads t r w < 0 := by
  have := leadTo_neg h (w.length - k)
  unfold leads
  rw [show k + (w.length - k) = w.length by omega] at this
  omega
end Go.Proofs.Ct
