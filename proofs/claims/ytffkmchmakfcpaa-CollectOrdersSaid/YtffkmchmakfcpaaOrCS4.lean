/- Words for memory: slices that read as lists; slices of the call's own that grow; slices.IndexFunc and slices.ContainsFunc at a list of numbers, for a predicate that only reads; coset.Check. -/
import Derived.WalkKit
import Derived.WalkSpells
import Derived.WalkLawsBesides
import Derived.Lib.Hide
import Derived.Deep.QuietTactic
import Derived.BigQuiet
import Derived.KernelRfl
import Derived.Shelf.Abstract
import Derived.Laws.AppendOwn
import Derived.Maps.AppendAt
import Derived.Maps.OwnSet
import Derived.Maps.OwnOps
import Derived.Deep.AppendSrc
import Derived.Test.YtffkmchmakfcpaaProg
import Derived.Test.YtffkmchmakfcpaaOrCS1
namespace Go.Proofs.B18
open Go.RowKit
/-- The cells from b, off on hold vs. -/
def Row (w : World) (b off : Nat) (vs : List Value) : Prop := ∀ j v, vs[j]? = some v → w.cell? ⟨b, off + j, none⟩ = some v
/-- The slice value v reads as the list vs (elements of one cell). -/
def Sl (w : World) (v : Value) (vs : List Value) : Prop :=
  ∃ A n cap, v = .slice A n cap ∧ n = vs.length ∧ n ≤ cap ∧ cap ≤ maxLen ∧ (0 < n → ∃ b off, A = some ⟨b, off, none⟩ ∧ Row w b off vs)
def ints (xs : List Int) : List Value := xs.map (Value.int .i64)
def Fits (xs : List Int) : Prop := ∀ x ∈ xs, -9223372036854775808 ≤ x ∧ x ≤ 9223372036854775807
def IntsAt (w : World) (v : Value) (xs : List Int) : Prop := Sl w v (ints xs) ∧ Fits xs
section
variable {w w' : World} {v : Value} {vs : List Value}
theorem Row.lt {b off : Nat} (h : Row w b off vs) (hn : 0 < vs.length) : b < w.heap.size := by
  have := h 0 _ (List.getElem?_eq_getElem hn)
  exact World.block_lt_of_cell? w _ this
theorem Row.keep {b off : Nat} (h : Row w b off vs) (hk : ∀ p : Addr, p.block < w.heap.size → w'.cell? p = w.cell? p) : Row w' b off vs := by
  intro j u hu
  have := h j u hu
  rw [hk _ (World.block_lt_of_cell? w _ this)]
  exact this
theorem Sl.keep (h : Sl w v vs) (hk : ∀ p : Addr, p.block < w.heap.size → w'.cell? p = w.cell? p) : Sl w' v vs := by
  obtain ⟨A, n, cap, h1, h2, h3, h4, h5⟩ := h
  exact ⟨A, n, cap, h1, h2, h3, h4, fun hn => let ⟨b, off, ha, hr⟩ := h5 hn; ⟨b, off, ha, hr.keep hk⟩⟩
theorem Sl.below (h : Sl w v vs) (hb : Below w.heap.size w w') : Sl w' v vs := h.keep fun _ hp => hb.cell hp
theorem IntsAt.below {xs : List Int} (h : IntsAt w v xs) (hb : Below w.heap.size w w') : IntsAt w' v xs := ⟨h.1.below hb, h.2⟩
theorem Sl.drewN (h : Sl w v vs) (k : Nat) : Sl (w.drewN k) v vs := h
theorem IntsAt.drewN {xs : List Int} (h : IntsAt w v xs) (k : Nat) : IntsAt (w.drewN k) v xs := h
theorem IntsAt.open_ {xs : List Int} (h : IntsAt w v xs) : ∃ A cap, v = .slice A xs.length cap ∧ xs.length ≤ cap ∧ cap ≤ 9223372036854775807 ∧
    (0 < xs.length → ∃ b off, A = some ⟨b, off, none⟩ ∧ ∀ k, k < xs.length → w.cell? ⟨b, off + k, none⟩ = some (.int .i64 (xs.getD k 0))) := by
  obtain ⟨⟨A, n, cap, h1, h2, h3, h4, h5⟩, hf⟩ := h
  have hl : n = xs.length := by simpa [ints] using h2
  subst hl
  refine ⟨A, cap, h1, h3, by simpa [maxLen] using h4, fun hn => ?_⟩
  obtain ⟨b, off, ha, hr⟩ := h5 hn
  refine ⟨b, off, ha, fun k hk => hr k _ ?_⟩
  simp [ints, List.getElem?_map, List.getD_eq_getElem?_getD, List.getElem?_eq_getElem hk]
theorem Fits.at_ {xs : List Int} (h : Fits xs) (k : Nat) : -9223372036854775808 ≤ xs.getD k 0 ∧ xs.getD k 0 ≤ 9223372036854775807 := by
  rw [List.getD_eq_getElem?_getD]
  rcases Nat.lt_or_ge k xs.length with hk | hk
  · rw [List.getElem?_eq_getElem hk]; exact h _ (List.getElem_mem hk)
  · rw [List.getElem?_eq_none hk]; simp
end
/-- A slice whose elements (one cell each) read, by R, as the list xs. -/
def LAt {α : Type} (R : World → Value → α → Prop) (d : α) (w : World) (v : Value) (xs : List α) : Prop :=
  ∃ vs, Sl w v vs ∧ vs.length = xs.length ∧ ∀ i, i < xs.length → ∃ u, vs[i]? = some u ∧ R w u (xs.getD i d)
def Kept {α : Type} (R : World → Value → α → Prop) : Prop := ∀ w w' v x, (∀ k, k < w.heap.size → w'.heap[k]? = w.heap[k]?) → R w v x → R w' v x
theorem cell_blocks {w w' : World} (h : ∀ k, k < w.heap.size → w'.heap[k]? = w.heap[k]?) (p : Addr) (hp : p.block < w.heap.size) : w'.cell? p = w.cell? p := World.cell?_of_block (h p.block hp)
theorem kept_ints : Kept IntsAt := fun _ _ _ _ hk h => ⟨h.1.keep (cell_blocks hk), h.2⟩
theorem kept_L {α : Type} {R : World → Value → α → Prop} {d : α} (hR : Kept R) : Kept (LAt R d) := fun _w _w' _v _xs hk ⟨vs, h1, h2, h3⟩ =>
  ⟨vs, h1.keep (cell_blocks hk), h2, fun i hi => let ⟨u, hu, hr⟩ := h3 i hi; ⟨u, hu, hR _ _ _ _ hk hr⟩⟩
abbrev Tab := LAt IntsAt []
abbrev Tab3 := LAt Tab []
theorem kept_tab : Kept Tab := kept_L kept_ints
theorem kept_tab3 : Kept Tab3 := kept_L kept_tab
theorem Kept.below {α : Type} {R : World → Value → α → Prop} (hR : Kept R) {w w' : World} {v : Value} {x : α} (h : R w v x) (hb : Below w.heap.size w w') : R w' v x := hR _ _ _ _ hb.block h
/-- The slice opened: an address where there is an element. -/
theorem LAt.open_ {α : Type} {R : World → Value → α → Prop} {d : α} {w : World} {v : Value} {xs : List α} (h : LAt R d w v xs) : ∃ A cap, v = .slice A xs.length cap ∧ xs.length ≤ cap ∧ cap ≤ 9223372036854775807 ∧
    (0 < xs.length → ∃ b off, A = some ⟨b, off, none⟩ ∧ ∀ k, k < xs.length → ∃ u, w.cell? ⟨b, off + k, none⟩ = some u ∧ R w u (xs.getD k d)) := by
  obtain ⟨vs, ⟨A, n, cap, h1, h2, h3, h4, h5⟩, hl, he⟩ := h
  have hn : n = xs.length := h2.trans hl
  subst hn
  refine ⟨A, cap, h1, h3, by simpa [maxLen] using h4, fun hn => ?_⟩
  obtain ⟨b, off, ha, hr⟩ := h5 hn
  refine ⟨b, off, ha, fun k hk => ?_⟩
  obtain ⟨u, hu, hru⟩ := he k hk
  exact ⟨u, hr k u hu, hru⟩
theorem quiet_add_left {P : Program} {f : FuncId} {args : Array Value} {w : World} {a n : Nat} {v : Value}
    (h : Calls P f args (w.drewN (a + n)) fun e w' => e = .returned v ∧ w.drewN (a + n) = w') :
    Calls P f args (w.drewN (a + n)) fun e w'' => e = .returned v ∧ ∃ m, w'' = w.drewN (a + m) :=
  h.mono fun _ _ ⟨he, hm⟩ => ⟨he, n, hm.symm⟩
theorem ret_bool {a b : Bool} (h : a = b) : Ending.returned (.bool a) = Ending.returned (.bool b) := by rw [h]
theorem ret_int {k : IntKind} {a b : Int} (h : a = b) : Ending.returned (.int k a) = Ending.returned (.int k b) := by rw [h]
theorem ret_of2 {u v : Value} {l : IntKind} {b d : Int} (h : u = v) (h' : b = d) : Ending.returned (.tuple #[u, .int l b]) = Ending.returned (.tuple #[v, .int l d]) := by rw [h, h']
theorem ret_pair {k l : IntKind} {a b c d : Int} (h : a = c) (h' : b = d) : Ending.returned (.tuple #[.int k a, .int l b]) = Ending.returned (.tuple #[.int k c, .int l d]) := by rw [h, h']
theorem below_drewN {B : Nat} {a w : World} (h : Below B a w) (n : Nat) : Below B a (w.drewN n) := ⟨h.os, h.tape, h.output, h.size, h.block⟩
theorem ints_app (a b : List Int) : ints (a ++ b) = ints a ++ ints b := by simp [ints]
theorem getD_ext {α : Type} {d : α} {A B : List α} (hl : A.length = B.length) (h : ∀ k, k < A.length → A.getD k d = B.getD k d) : A = B := by
  apply List.ext_getElem hl
  intro i h1 h2
  have := h i h1
  simpa [List.getD_eq_getElem?_getD, h1, h2] using this
theorem getD_ne {α : Type} {d : α} {A B : List α} {k : Nat} (h : A.getD k d ≠ B.getD k d) : A ≠ B := fun e => h (by rw [e])
theorem ex_drewN {w : World} {n m : Nat} : ∃ q, (w.drewN n).drewN m = w.drewN q := ⟨_, World.drewN_drewN _ _ _⟩
theorem all_succ {p : Nat → Prop} {k : Nat} (h : ∀ j, j < k → p j) (hk : p k) : ∀ j, j < k + 1 → p j := fun j hj => by
  rcases Nat.lt_or_ge j k with h1 | h1
  · exact h j h1
  · obtain rfl : j = k := by omega
    exact hk
theorem intsAt_nil {w : World} : IntsAt w (.slice none 0 0) [] := ⟨⟨none, 0, 0, rfl, rfl, Nat.le_refl _, by simp [maxLen], fun h => absurd h (by simp)⟩, fun x hx => by cases hx⟩
theorem tab_nil {w : World} : Tab w (.slice none 0 0) [] := ⟨[], ⟨none, 0, 0, rfl, rfl, Nat.le_refl _, by simp [maxLen], fun h => absurd h (by omega)⟩, rfl, fun i hi => absurd hi (by simp)⟩
def allocs : World → List Obj → World
  | w, [] => w
  | w, o :: os => allocs (w.alloc o) os
theorem allocs_below : ∀ (os : List Obj) (w : World) (n : Nat), n ≤ w.heap.size → Below n w (allocs w os)
  | [], _, _, _ => Below.refl _ _
  | o :: os, w, n, h => ((Below.refl n w).alloc h o).trans (allocs_below os (w.alloc o) n (by simp; omega))
theorem allocs_get : ∀ (os : List Obj) (w : World) (i : Nat) (o : Obj), os[i]? = some o → (allocs w os).heap[w.heap.size + i]? = some o
  | [], _, _, _, h => by simp at h
  | o :: os, w, 0, o', h => by
    have e : o = o' := by simpa using h
    subst e
    have hb := allocs_below os (w.alloc o) (w.heap.size + 1) (by simp)
    exact (hb.block w.heap.size (by omega)).trans (heap_alloc_new w o)
  | o :: os, w, i + 1, o', h => by
    have := allocs_get os (w.alloc o) i o' (by simpa using h)
    rw [World.size_alloc] at this
    rw [show w.heap.size + (i + 1) = w.heap.size + 1 + i by omega]
    exact this
section
variable {ops : Array Oper} {rest : List Oper} {o : Oper} {a : Act} {w w' : World} {Q : Exit → Act → World → Prop} {v : Value}
theorem wpList_sel (s : Nat) {op : Op} {t : TypeId} {p : String} {af : Array Edge} {g : Option (Nat × Bool)} (h : wpList Try.prog ops Q (⟨some s, op, t, p, af, g⟩ :: rest) a w) : wpList Try.prog ops Q (⟨some s, op, t, p, af, g⟩ :: rest) a w := h
theorem wpList_val (hg : o.guard = none) (hrun : (execOp a.eval o).run Try.prog w = .ok (.value v) w') (h : wpList Try.prog ops Q rest (a.put o.dst v) w') : wpList Try.prog ops Q (o :: rest) a w :=
  wpList_plain hg fun _ hK => by
    unfold Oper.wp
    rw [hrun]
    exact hK _ _ h
theorem wpList_skip (hg : o.guard = none) (hrun : (execOp a.eval o).run Try.prog w = .ok .skip w') (h : wpList Try.prog ops Q rest (a.put o.dst undef) w') : wpList Try.prog ops Q (o :: rest) a w :=
  wpList_plain hg fun _ hK => by
    unfold Oper.wp
    rw [hrun]
    exact hK _ _ h
theorem r_app (s x : Operand) (t : TypeId) {sv xv v' : Value} (ho : o.op = .call { callee := .builtin .append, args := #[s, x], argTypes := #[t, t] }) (hs : a.eval s = sv) (hx : a.eval x = xv)
    (hr : (Builtin.append_ #[t, t] o.type #[sv, xv]).run Try.prog w = .ok v' w') : (execOp a.eval o).run Try.prog w = .ok (.value v') w' := by
  unfold execOp
  simp only [ho, resolve, invoke, builtin, Sem.run_bind, Sem.run_pure, Result.andThen_ok, List.map_toArray, List.map_cons, List.map_nil, hs, hx, hr]
end
theorem owns_block {w : World} {base e n : Nat} {v : Value} {xs : List Value} (h : w.ownsRow base e 1 v n xs) : ∀ r, v.ownBlock = some r → base ≤ r ∧ ∃ C, w.heap[r]? = some (.cells C e (0, 0)) := fun r hr => by
  rcases h.2 with ⟨rfl, -⟩ | ⟨g, cap, cur, rfl, hb, hg, -⟩
  · cases hr
  · have : g = r := Option.some.inj hr
    subst this
    exact ⟨hb, cur, hg⟩
theorem owns_lt {w : World} {base e n : Nat} {v : Value} {xs : List Value} (h : w.ownsRow base e 1 v n xs) {r : Nat} (hr : v.ownBlock = some r) : r < w.heap.size := by
  obtain ⟨-, C, hC⟩ := owns_block h r hr
  exact (Array.getElem?_eq_some_iff.1 hC).1
theorem owns_keep {w w' : World} {base e size n : Nat} {v : Value} {xs : List Value} (h : w.ownsRow base e size v n xs) (hb : ∀ r, v.ownBlock = some r → w'.heap[r]? = w.heap[r]?) : w'.ownsRow base e size v n xs := by
  obtain ⟨h1, h2⟩ := h
  refine ⟨h1, ?_⟩
  rcases h2 with h2 | ⟨g, cap, cur, a, b, hg, r⟩
  · exact .inl h2
  · exact .inr ⟨g, cap, cur, a, b, (hb g (by rw [a]; rfl)).trans hg, r⟩
theorem owns_form {w : World} {base e n : Nat} {v : Value} {xs : List Value} (h : w.ownsRow base e 1 v n xs) : ∃ A c, v = .slice A n c := by
  rcases h.2 with ⟨rfl, rfl⟩ | ⟨g, cap, cur, rfl, -⟩
  · exact ⟨none, 0, rfl⟩
  · exact ⟨_, _, rfl⟩
theorem owns_below {w w' : World} {base e size n : Nat} {v : Value} {xs : List Value} (h : w.ownsRow base e size v n xs) (hb : Below w.heap.size w w') : w'.ownsRow base e size v n xs := by
  obtain ⟨h1, h2⟩ := h
  refine ⟨h1, ?_⟩
  rcases h2 with h2 | ⟨g, cap, cur, a, b, hg, r⟩
  · exact .inl h2
  · exact .inr ⟨g, cap, cur, a, b, (hb.block _ (Array.getElem?_eq_some_iff.1 hg).1).trans hg, r⟩
theorem owns_base {w : World} {base base' e size n : Nat} {v : Value} {xs : List Value} (h : w.ownsRow base e size v n xs) (hb : base' ≤ base) : w.ownsRow base' e size v n xs := by
  obtain ⟨h1, h2⟩ := h
  refine ⟨h1, ?_⟩
  rcases h2 with h2 | ⟨g, cap, cur, a, b, r⟩
  · exact .inl h2
  · exact .inr ⟨g, cap, cur, a, Nat.le_trans hb b, r⟩
theorem sl_of_owns {w : World} {base e n : Nat} {v : Value} {xs : List Value} (h : w.ownsRow base e 1 v n xs) : Sl w v xs := by
  obtain ⟨hl, h⟩ := h
  rcases h with ⟨rfl, rfl⟩ | ⟨g, cap, cur, rfl, hbg, hg, hnc, hcm, hcs, htake⟩
  · exact ⟨none, 0, 0, rfl, by simpa using hl.symm, Nat.le_refl _, by simp [maxLen], fun h => absurd h (by omega)⟩
  · refine ⟨_, n, cap, rfl, by omega, hnc, hcm, fun _ => ⟨g, 0, rfl, fun j u hu => ?_⟩⟩
    rw [cell_of_row _ _ _ _ _ _ hg, Nat.zero_add]
    rw [← htake, List.getElem?_take] at hu
    split at hu
    · simpa using hu
    · cases hu
/-- v is a slice of numbers of the call's own -/
abbrev OwnI (base : Nat) (w : World) (v : Value) (xs : List Int) : Prop := w.ownsRow base 3 1 v xs.length (ints xs)
theorem OwnI.ints {base : Nat} {w : World} {v : Value} {xs : List Int} (h : OwnI base w v xs) (hf : Fits xs) : IntsAt w v xs := ⟨sl_of_owns h, hf⟩
theorem info3p : ∃ i, Try.prog.info? 3 = some i ∧ i.zero = some (.int .i64 0) ∧ i.size = 1 ∧ i.bytes = 8 := by
  have h : (Try.prog.info? 3).map (fun i => (i.zero, i.size, i.bytes)) = some (some (.int .i64 0), 1, 8) := by kernel_rfl
  cases hq : Try.prog.info? 3 with
  | none => simp [hq] at h
  | some i => simp [hq] at h; exact ⟨i, rfl, h⟩
theorem info24p : ∃ i, Try.prog.info? 22 = some i ∧ i.zero = some (.slice none 0 0) ∧ i.size = 1 ∧ i.bytes = 24 := by
  have h : (Try.prog.info? 22).map (fun i => (i.zero, i.size, i.bytes)) = some (some (.slice none 0 0), 1, 24) := by kernel_rfl
  cases hq : Try.prog.info? 22 with
  | none => simp [hq] at h
  | some i => simp [hq] at h; exact ⟨i, rfl, h⟩
theorem info25p : ∃ i, Try.prog.info? 50 = some i ∧ i.zero = some (.slice none 0 0) ∧ i.size = 1 ∧ i.bytes = 24 := by
  have h : (Try.prog.info? 50).map (fun i => (i.zero, i.size, i.bytes)) = some (some (.slice none 0 0), 1, 24) := by kernel_rfl
  cases hq : Try.prog.info? 50 with
  | none => simp [hq] at h
  | some i => simp [hq] at h; exact ⟨i, rfl, h⟩
/-- append of one element, which lies in a block just laid -/
theorem run_push {t ty e : TypeId} {z : Value} {bytes : Nat} (ht : Try.prog.underlying t = some (.slice e)) (hi : ∃ i, Try.prog.info? e = some i ∧ i.zero = some z ∧ i.size = 1 ∧ i.bytes = bytes) (hz : z.cells.size = 1) (hby : bytes ≤ 1000)
    (w : World) (base : Nat) (v : Value) (n : Nat) (xs : List Value) (hown : w.ownsRow base e 1 v n xs) (x : Value) (h1 : x.oneCell' = true) (hn : n ≤ 10000000) (hb : base ≤ w.heap.size) :
    ∃ A' c' w', (Builtin.append_ #[t, t] ty #[v, .slice (some ⟨w.heap.size, 0, none⟩) 1 1]).run Try.prog (w.alloc (.cells #[x] e)) = .ok (.slice A' (n + 1) c') w' ∧ w'.ownsRow base e 1 (.slice A' (n + 1) c') (n + 1) (xs ++ [x]) ∧
      w.grownBy w' v.ownBlock ∧ ((Value.slice A' (n + 1) c').ownBlock = v.ownBlock ∨ ∃ r, (Value.slice A' (n + 1) c').ownBlock = some r ∧ w.heap.size ≤ r) := by
  obtain ⟨i, hi, hz', hs, hb'⟩ := hi
  have hal : Below w.heap.size w (w.alloc (.cells #[x] e)) := (Below.refl _ _).alloc (Nat.le_refl _) _
  obtain ⟨v', w', hr, hown', hg, -, hw⟩ := run_append_own_at (P := Try.prog) (w.alloc (.cells #[x] e)) base t ty e i z 1 bytes ht hi hz' hs hb' hz (by omega) v n xs (owns_below hown hal) ⟨w.heap.size, 0, none⟩ 1 1 [x] rfl (cell_one_new _ _ _) (fun u hu => by simp at hu; rw [hu]; exact h1) (by unfold maxLen; omega)
    (by have : (n + 1) * bytes ≤ 10000001 * 1000 := Nat.mul_le_mul (by omega) hby
        omega) (by have := hal.size; omega)
  obtain ⟨A', c', rfl⟩ := owns_form hown'
  refine ⟨A', c', w', hr, hown', ?_, ?_⟩
  · have h2 := hg
    exact ⟨h2.os, h2.tape, h2.output, Nat.le_trans hal.size h2.size, fun k hk hne => (h2.block k (Nat.lt_of_lt_of_le hk hal.size) hne).trans (hal.block k hk)⟩
  · rcases hw with hw | hw
    · exact .inl hw
    · exact .inr ⟨_, hw, by simp⟩
theorem push_int (ty : TypeId) (t : TypeId) (ht : Try.prog.underlying t = some (.slice 3)) (w : World) (base : Nat) (v : Value) (xs : List Int) (h : OwnI base w v xs) (z : Int) (hx : xs.length ≤ 10000000) (hb : base ≤ w.heap.size) :
    ∃ A' c' w', (Builtin.append_ #[t, t] ty #[v, .slice (some ⟨w.heap.size, 0, none⟩) 1 1]).run Try.prog (w.alloc (.cells #[.int .i64 z] 3)) = .ok (.slice A' (xs.length + 1) c') w' ∧ OwnI base w' (.slice A' (xs.length + 1) c') (xs ++ [z]) ∧
      w.grownBy w' v.ownBlock ∧ ((Value.slice A' (xs.length + 1) c').ownBlock = v.ownBlock ∨ ∃ r, (Value.slice A' (xs.length + 1) c').ownBlock = some r ∧ w.heap.size ≤ r) := by
  obtain ⟨A', c', w', hr, ho, hg, hw⟩ := run_push (ty := ty) ht info3p rfl (by omega) w base v xs.length (ints xs) h (.int .i64 z) rfl hx hb
  refine ⟨A', c', w', hr, ?_, hg, hw⟩
  show w'.ownsRow base 3 1 _ (xs ++ [z]).length (ints (xs ++ [z]))
  rw [ints_app, List.length_append]
  exact ho
/-- the blocks of F are as they were -/
def Ag (F : Nat → Prop) (w w' : World) : Prop := ∀ k, F k → w'.heap[k]? = w.heap[k]?
theorem Ag.refl (F : Nat → Prop) (w : World) : Ag F w w := fun _ _ => rfl
theorem Ag.trans {F : Nat → Prop} {a b c : World} (h : Ag F a b) (k : Ag F b c) : Ag F a c := fun i hi => (k i hi).trans (h i hi)
theorem Ag.grown {F : Nat → Prop} {w w' : World} {row : Option Nat} (hg : w.grownBy w' row) (hF : ∀ k, F k → k < w.heap.size ∧ row ≠ some k) : Ag F w w' := fun k hk => hg.block k (hF k hk).1 (fun e => (hF k hk).2 e.symm)
theorem Ag.below {F : Nat → Prop} {w w' : World} (hb : Below w.heap.size w w') (hF : ∀ k, F k → k < w.heap.size) : Ag F w w' := fun k hk => hb.block k (hF k hk)
/-- u reads as x by the blocks of F -/
def IntsF (F : Nat → Prop) (w : World) (u : Value) (x : List Int) : Prop := ∀ w', Ag F w w' → IntsAt w' u x
theorem IntsF.at_ {F : Nat → Prop} {w : World} {u : Value} {x : List Int} (h : IntsF F w u x) : IntsAt w u x := h w (Ag.refl _ _)
theorem IntsF.keep {F : Nat → Prop} {w w' : World} {u : Value} {x : List Int} (h : IntsF F w u x) (ha : Ag F w w') : IntsF F w' u x := fun w'' h' => h w'' (ha.trans h')
theorem IntsF.mono {F G : Nat → Prop} {w : World} {u : Value} {x : List Int} (h : IntsF F w u x) (hg : ∀ k, F k → G k) : IntsF G w u x := fun w' h' => h w' fun k hk => h' k (hg k hk)
theorem IntsF.of_own {base : Nat} {w : World} {v : Value} {xs : List Int} (h : OwnI base w v xs) (hf : Fits xs) : IntsF (fun k => v.ownBlock = some k) w v xs := fun _w' hw => OwnI.ints (owns_keep h fun r hr => hw r hr) hf
/-- the values vals read as the lists xs, by the blocks of F -/
def RowsF (F : Nat → Prop) (w : World) (vals : List Value) (xs : List (List Int)) : Prop := vals.length = xs.length ∧ ∀ j, j < xs.length → ∃ u, vals[j]? = some u ∧ IntsF F w u (xs.getD j [])
theorem RowsF.keep {F G : Nat → Prop} {w w' : World} {vals : List Value} {xs : List (List Int)} (h : RowsF F w vals xs) (ha : Ag F w w') (hg : ∀ k, F k → G k) : RowsF G w' vals xs :=
  ⟨h.1, fun j hj => let ⟨u, hu, hx⟩ := h.2 j hj; ⟨u, hu, (hx.keep ha).mono hg⟩⟩
theorem RowsF.nil (F : Nat → Prop) (w : World) : RowsF F w [] [] := ⟨rfl, fun j hj => absurd hj (by simp)⟩
theorem RowsF.snoc {F : Nat → Prop} {w : World} {vals : List Value} {xs : List (List Int)} (h : RowsF F w vals xs) {u : Value} {x : List Int} (hu : IntsF F w u x) : RowsF F w (vals ++ [u]) (xs ++ [x]) := by
  refine ⟨by simp [h.1], fun j hj => ?_⟩
  rcases Nat.lt_or_ge j xs.length with hl | hl
  · obtain ⟨u', h1, h2⟩ := h.2 j hl
    refine ⟨u', by rw [List.getElem?_append_left (by rw [h.1]; exact hl)]; exact h1, ?_⟩
    rw [show (xs ++ [x]).getD j [] = xs.getD j [] by simp [List.getD_eq_getElem?_getD, List.getElem?_append_left hl]]
    exact h2
  · obtain rfl : j = xs.length := by simp at hj; omega
    refine ⟨u, by rw [List.getElem?_append_right (by rw [h.1]; exact Nat.le_refl _), h.1]; simp, ?_⟩
    rw [show (xs ++ [x]).getD xs.length [] = x by simp [List.getD_eq_getElem?_getD]]
    exact hu
/-- v is a slice of rows of the call's own; its rows lie in F -/
def OwnT (e : TypeId) (base : Nat) (F : Nat → Prop) (w : World) (v : Value) (xs : List (List Int)) : Prop := ∃ vals, w.ownsRow base e 1 v xs.length vals ∧ RowsF F w vals xs
theorem OwnT.tab {e : TypeId} {base : Nat} {F : Nat → Prop} {w : World} {v : Value} {xs : List (List Int)} (h : OwnT e base F w v xs) : Tab w v xs := by
  obtain ⟨vals, h1, h2⟩ := h
  exact ⟨vals, sl_of_owns h1, h2.1, fun i hi => let ⟨u, hu, hx⟩ := h2.2 i hi; ⟨u, hu, hx.at_⟩⟩
theorem OwnT.form {e : TypeId} {base : Nat} {F : Nat → Prop} {w : World} {v : Value} {xs : List (List Int)} (h : OwnT e base F w v xs) : ∃ A c, v = .slice A xs.length c := let ⟨_, h1, _⟩ := h; owns_form h1
theorem OwnT.keep {e : TypeId} {base : Nat} {F G : Nat → Prop} {w w' : World} {v : Value} {xs : List (List Int)} (h : OwnT e base F w v xs) (hv : ∀ r, v.ownBlock = some r → w'.heap[r]? = w.heap[r]?) (ha : Ag F w w') (hg : ∀ k, F k → G k) : OwnT e base G w' v xs :=
  let ⟨vals, h1, h2⟩ := h; ⟨vals, owns_keep h1 hv, h2.keep ha hg⟩
theorem OwnT.below {e : TypeId} {base : Nat} {F : Nat → Prop} {w w' : World} {v : Value} {xs : List (List Int)} (h : OwnT e base F w v xs) (hb : Below w.heap.size w w') (hF : ∀ k, F k → k < w.heap.size) : OwnT e base F w' v xs :=
  let ⟨_vals, h1, _h2⟩ := h; h.keep (fun _r hr => hb.block _ (owns_lt h1 hr)) (Ag.below hb hF) fun _ h => h
/-- a row is appended -/
theorem push_row {t ty e : TypeId} (ht : Try.prog.underlying t = some (.slice e)) (hi : ∃ i, Try.prog.info? e = some i ∧ i.zero = some (.slice none 0 0) ∧ i.size = 1 ∧ i.bytes = 24) (w : World) (base : Nat) (F : Nat → Prop) (v : Value) (xs : List (List Int)) (h : OwnT e base F w v xs) (A : Option Addr) (n c : Nat) (x : List Int)
    (hx : IntsF F w (.slice A n c) x) (hF : ∀ k, F k → k < w.heap.size ∧ v.ownBlock ≠ some k) (hl : xs.length ≤ 10000000) (hb : base ≤ w.heap.size) :
    ∃ A' c' w', (Builtin.append_ #[t, t] ty #[v, .slice (some ⟨w.heap.size, 0, none⟩) 1 1]).run Try.prog (w.alloc (.cells #[.slice A n c] e)) = .ok (.slice A' (xs.length + 1) c') w' ∧ OwnT e base F w' (.slice A' (xs.length + 1) c') (xs ++ [x]) ∧
      w.grownBy w' v.ownBlock ∧ ((Value.slice A' (xs.length + 1) c').ownBlock = v.ownBlock ∨ ∃ r, (Value.slice A' (xs.length + 1) c').ownBlock = some r ∧ w.heap.size ≤ r) := by
  obtain ⟨vals, h1, h2⟩ := h
  obtain ⟨A', c', w', hr, ho, hg, hw⟩ := run_push (ty := ty) ht hi rfl (by omega) w base v xs.length vals h1 (.slice A n c) rfl hl hb
  refine ⟨A', c', w', hr, ⟨vals ++ [.slice A n c], ?_, ?_⟩, hg, hw⟩
  · rw [List.length_append]; exact ho
  · have ha := Ag.grown hg hF
    exact (h2.keep ha fun _ h => h).snoc (hx.keep ha)
end Go.Proofs.B18
namespace Go.Proofs.B18
open Go.RowKit Go.Shelf
/-- function g, bound to lb, answers p at the numbers that ok allows, in w and behind draws -/
def PredW (g : Nat) (lb : Array Value) (ok : Int → Prop) (p : Int → Bool) (w : World) : Prop :=
  ∀ (x : Int) (q : Nat), ok x → Calls Try.prog g (#[.int .i64 x] ++ lb) (w.drewN q) fun e w' => e = .returned (.bool (p x)) ∧ ∃ q', w' = w.drewN q'
def IdxSaid (b : Bool) (e : Ending) : Prop := ∃ r : Int, e = .returned (.int .i64 r) ∧ decide (0 ≤ r) = b
theorem any_false_of {p : Int → Bool} {xs : List Int} (h : ∀ j, j < xs.length → p (xs.getD j 0) = false) : xs.any p = false := by
  rw [List.any_eq_false]
  intro x hx
  obtain ⟨c, hc, rfl⟩ := List.mem_iff_getElem.1 hx
  have := h c hc
  rw [List.getD_eq_getElem?_getD, List.getElem?_eq_getElem hc] at this
  simpa using this
theorem any_true_of {p : Int → Bool} {xs : List Int} {k : Nat} (hk : k < xs.length) (h : p (xs.getD k 0) = true) : xs.any p = true := by
  rw [List.any_eq_true]
  rw [List.getD_eq_getElem?_getD, List.getElem?_eq_getElem hk] at h
  exact ⟨_, List.getElem_mem hk, h⟩
section
variable (g : Nat) (lb : Array Value) (ok : Int → Prop) (p : Int → Bool) (w : World) (eg : ∀ args w, (callFunc g args).run Try.prog w = .ok (.enter g args) w) (hp : PredW g lb ok p w) (v : Value) (xs : List Int) (h : IntsAt w v xs) (hok : ∀ x ∈ xs, ok x)
include eg hp h hok
set_option maxHeartbeats 400000 in
theorem idx138_any : Calls Try.prog 62 #[v, .func (.func g) #[] lb] w fun e w' => IdxSaid (xs.any p) e ∧ ∃ q, w' = w.drewN q := by
  obtain ⟨A, c, rfl, hc1, hc2, hc⟩ := h.open_
  have HC := Lib.hid hc
  have HP := Lib.hid hp
  have HK := Lib.hid hok
  clear hc hp h hok
  go_enter Try.func62, Try.ntmps62
  go_wp2_with fail
  go_loopw [5, 8] (fun _ i wr => ∃ k : Nat, k ≤ xs.length ∧ i = .int .i64 k ∧ (∀ j, j < k → p (xs.getD j 0) = false) ∧ ∃ q, wr = w.drewN q) (fun _ i _ => xs.length - (intOf i).toNat)
  case atStart => exact ⟨0, Nat.zero_le _, rfl, fun j hj => absurd hj (by omega), 0, rfl⟩
  case round =>
    obtain ⟨k, hk, rfl, hz, q, rfl⟩ := hrel
    have HZ := Lib.hid hz
    clear hz
    by_cases hlt : k < xs.length
    · obtain ⟨b, o, rfl, hcc⟩ := HC.out (by omega)
      have hck := hcc k hlt
      have hx : ok (xs.getD k 0) := HK.out _ (by rw [List.getD_eq_getElem?_getD, List.getElem?_eq_getElem hlt]; exact List.getElem_mem hlt)
      clear hcc
      have HA := Lib.hid (any_true_of (p := p) hlt)
      generalize hxe : xs.getD k 0 = x at *
      have HXE := Lib.hid hxe
      clear hxe
      have HX := Lib.hid hx
      clear hx
      have hcall := HP.out x q HX.out
      cases hq : p x with
      | true =>
        rw [hq] at hcall
        have HQ := Lib.hid hq
        clear hq
        have HCALL := Lib.hid hcall
        clear hcall
        go_wp2_with (go_at_fn g; (refine HCALL.out.mono ?_); rintro e w' ⟨rfl, q', rfl⟩)
        go_ret
        exact ⟨⟨k, rfl, by rw [HA.out HQ.out]; simp⟩, _, rfl⟩
      | false =>
        rw [hq] at hcall
        have HQ := Lib.hid hq
        clear hq
        have HCALL := Lib.hid hcall
        clear hcall
        go_wp2_with (go_at_fn g; (refine HCALL.out.mono ?_); rintro e w' ⟨rfl, q', rfl⟩)
        go_roundw
        case rel => exact ⟨k + 1, by omega, by go_num, all_succ HZ.out (by rw [HXE.out]; exact HQ.out), _, rfl⟩
        case measure => simp [intOf]; omega
    · obtain rfl : k = xs.length := by omega
      go_wp2_with fail
      go_ret
      exact ⟨⟨-1, rfl, by rw [any_false_of HZ.out]; rfl⟩, _, rfl⟩
theorem has103_any : Calls Try.prog 113 #[v, .func (.func g) #[] lb] w fun e w' => e = .returned (.bool (xs.any p)) ∧ ∃ q, w' = w.drewN q := by
  have hcon := Lib.hid (idx138_any g lb ok p w eg hp v xs h hok)
  clear hp h hok
  go_enter Try.func113, Try.ntmps113
  go_wp2_with (go_at_call 62; (refine hcon.out.mono ?_); rintro e w' ⟨⟨r, rfl, hr⟩, q, rfl⟩; have HR := Lib.hid hr; clear hr)
  go_ret
  exact ⟨ret_bool HR.out, _, rfl⟩
set_option maxHeartbeats 400000 in
theorem idx117_any : Calls Try.prog 109 #[v, .func (.func g) #[] lb] w fun e w' => IdxSaid (xs.any p) e ∧ ∃ q, w' = w.drewN q := by
  obtain ⟨A, c, rfl, hc1, hc2, hc⟩ := h.open_
  have HC := Lib.hid hc
  have HP := Lib.hid hp
  have HK := Lib.hid hok
  clear hc hp h hok
  go_enter Try.func109, Try.ntmps109
  go_wp2_with fail
  go_loopw [5, 8] (fun _ i wr => ∃ k : Nat, k ≤ xs.length ∧ i = .int .i64 k ∧ (∀ j, j < k → p (xs.getD j 0) = false) ∧ ∃ q, wr = w.drewN q) (fun _ i _ => xs.length - (intOf i).toNat)
  case atStart => exact ⟨0, Nat.zero_le _, rfl, fun j hj => absurd hj (by omega), 0, rfl⟩
  case round =>
    obtain ⟨k, hk, rfl, hz, q, rfl⟩ := hrel
    have HZ := Lib.hid hz
    clear hz
    by_cases hlt : k < xs.length
    · obtain ⟨b, o, rfl, hcc⟩ := HC.out (by omega)
      have hck := hcc k hlt
      have hx : ok (xs.getD k 0) := HK.out _ (by rw [List.getD_eq_getElem?_getD, List.getElem?_eq_getElem hlt]; exact List.getElem_mem hlt)
      clear hcc
      have HA := Lib.hid (any_true_of (p := p) hlt)
      generalize hxe : xs.getD k 0 = x at *
      have HXE := Lib.hid hxe
      clear hxe
      have HX := Lib.hid hx
      clear hx
      have hcall := HP.out x q HX.out
      cases hq : p x with
      | true =>
        rw [hq] at hcall
        have HQ := Lib.hid hq
        clear hq
        have HCALL := Lib.hid hcall
        clear hcall
        go_wp2_with (go_at_fn g; (refine HCALL.out.mono ?_); rintro e w' ⟨rfl, q', rfl⟩)
        go_ret
        exact ⟨⟨k, rfl, by rw [HA.out HQ.out]; simp⟩, _, rfl⟩
      | false =>
        rw [hq] at hcall
        have HQ := Lib.hid hq
        clear hq
        have HCALL := Lib.hid hcall
        clear hcall
        go_wp2_with (go_at_fn g; (refine HCALL.out.mono ?_); rintro e w' ⟨rfl, q', rfl⟩)
        go_roundw
        case rel => exact ⟨k + 1, by omega, by go_num, all_succ HZ.out (by rw [HXE.out]; exact HQ.out), _, rfl⟩
        case measure => simp [intOf]; omega
    · obtain rfl : k = xs.length := by omega
      go_wp2_with fail
      go_ret
      exact ⟨⟨-1, rfl, by rw [any_false_of HZ.out]; rfl⟩, _, rfl⟩
theorem has74_any : Calls Try.prog 97 #[v, .func (.func g) #[] lb] w fun e w' => e = .returned (.bool (xs.any p)) ∧ ∃ q, w' = w.drewN q := by
  have hcon := Lib.hid (idx117_any g lb ok p w eg hp v xs h hok)
  clear hp h hok
  go_enter Try.func97, Try.ntmps97
  go_wp2_with (go_at_call 109; (refine hcon.out.mono ?_); rintro e w' ⟨⟨r, rfl, hr⟩, q, rfl⟩; have HR := Lib.hid hr; clear hr)
  go_ret
  exact ⟨ret_bool HR.out, _, rfl⟩
end
end Go.Proofs.B18
namespace Go.Proofs.B18
open Go.RowKit Go.Shelf Go.Proofs.Ct
theorem pred104 (A : Option Addr) (n c B : Nat) (w : World) (_hn : n ≤ 9223372036854775807) (hc : w.cell? ⟨B, 0, none⟩ = some (.slice A n c)) :
    PredW 114 #[.pointer (some ⟨B, 0, none⟩)] (fun x => -9223372036854775808 ≤ x ∧ x ≤ 9223372036854775807) (outB n) w := fun x q hx => by
  have hcq : (w.drewN q).cell? ⟨B, 0, none⟩ = some (.slice A n c) := hc
  show Calls Try.prog 114 #[.int .i64 x, .pointer (some ⟨B, 0, none⟩)] (w.drewN q) _
  have h0 : outB n x = (decide (x < -1) || decide ((n : Int) ≤ x)) := rfl
  have H0 := Lib.hid h0
  clear h0
  generalize hW : w.drewN q = W at *
  have HW := Lib.hid hW
  clear hW
  by_cases h1 : x < -1
  · go_enter Try.func114, Try.ntmps114
    go_wp2_with fail
    go_ret
    exact ⟨ret_bool (by rw [H0.out]; simp [h1]), q, HW.out.symm⟩
  · by_cases h2 : (n : Int) ≤ x
    · go_enter Try.func114, Try.ntmps114
      go_wp2_with fail
      go_ret
      exact ⟨ret_bool (by rw [H0.out]; simp [h2]), q, HW.out.symm⟩
    · go_enter Try.func114, Try.ntmps114
      go_wp2_with fail
      go_ret
      exact ⟨ret_bool (by rw [H0.out]; simp [h1, h2]), q, HW.out.symm⟩
theorem eg104 : ∀ args w, (callFunc 114 args).run Try.prog w = .ok (.enter 114 args) w := enters_of Try.func114 (by kernel_rfl) rfl
theorem check_row {g : Int} {t : Tb} (hw : wide g t = false) {k : Nat} (hk : k < t.length) (hz : ∀ j, j < k → rowBad g t.length (t.row j) = false) (hb : rowBad g t.length (t.row k) = true) : check g t = (if ((t.row k).length : Int) ≠ 2 * g then 3 else 2, (k : Int)) := by
  unfold check
  rw [hw, first_some hk hb hz]
  rfl
theorem check_sum {g : Int} {t : Tb} (hw : wide g t = false) (hr : ∀ j, j < t.length → rowBad g t.length (t.row j) = false) {k : Nat} (hk : k < t.length) (hz : ∀ j, j < k → sumBad t (2 * g).toNat j = false) (hb : sumBad t (2 * g).toNat k = true) : check g t = (14, (k : Int)) := by
  unfold check
  rw [hw, first_none hr, first_some hk hb hz]
  rfl
theorem check_fine {g : Int} {t : Tb} (hw : wide g t = false) (hr : ∀ j, j < t.length → rowBad g t.length (t.row j) = false) (hz : ∀ j, j < t.length → sumBad t (2 * g).toNat j = false) : check g t = (0, -1) := by
  unfold check
  rw [hw, first_none hr, first_none hz]
  rfl
theorem rowBad_len {g n : Int} {row : List Int} (h : (row.length : Int) ≠ 2 * g) : rowBad g n row = true := by
  unfold rowBad
  rw [Bool.or_eq_true]
  exact .inl (by simpa using h)
theorem rowBad_of {g n : Int} {row : List Int} (h : (row.length : Int) = 2 * g) : rowBad g n row = rowOut n row := by
  unfold rowBad
  rw [show decide ((row.length : Int) ≠ 2 * g) = false by simpa using h]
  rfl
theorem flp_eq : ∀ c : Nat, c < 40 → bits .xor .i64 (c : Int) 1 = ((flp c : Nat) : Int) := by decide +kernel
theorem flp_lt {c m : Nat} (h : c < 2 * m) : flp c < 2 * m := by
  unfold flp
  split <;> omega
def CheckPost (g : Int) (t : Tb) (w : World) (e : Ending) (w' : World) : Prop := e = .returned (.tuple #[.int .i64 (check g t).1, .int .i64 (check g t).2]) ∧ Below w.heap.size w w'
set_option maxRecDepth 100000 in
set_option maxHeartbeats 1000000 in
theorem check43_any (w : World) (v : Value) (g : Int) (t : Tb) (ht : Tab w v t) : Calls Try.prog 105 #[.int .i64 g, v] w (CheckPost g t w) := by
  obtain ⟨A, c, rfl, hc1, hc2, hc⟩ := ht.open_
  have HC := Lib.hid hc
  clear hc ht
  have HCK : Hid (check g t = if wide g t then ((2 : Int), (-1 : Int)) else
    match first (fun r => rowBad g t.length (t.row r)) t.length with
    | some r => (if ((t.row r).length : Int) ≠ 2 * g then 3 else 2, (r : Int))
    | none => match first (sumBad t (2 * g).toNat) t.length with
      | some r => (14, (r : Int))
      | none => (0, -1)) := Lib.hid rfl
  by_cases hw : wide g t = true
  · have HCW : Hid (check g t = (2, -1)) := Lib.hid (by rw [HCK.out, if_pos hw])
    have hw' : g < 1 ∨ 16 < g ∨ t.length < 1 ∨ 20000 < t.length := by
      unfold wide at hw
      simp only [Bool.or_eq_true, decide_eq_true_eq] at hw
      omega
    clear hw
    by_cases h1 : g < 1
    · go_enter Try.func105, Try.ntmps105
      go_wp2_with fail
      go_ret2
      exact ⟨ret_pair (by rw [HCW.out]) (by rw [HCW.out]), (Below.refl _ _).alloc (Nat.le_refl _) _⟩
    · by_cases h2 : 16 < g
      · go_enter Try.func105, Try.ntmps105
        go_wp2_with fail
        go_ret2
        exact ⟨ret_pair (by rw [HCW.out]) (by rw [HCW.out]), (Below.refl _ _).alloc (Nat.le_refl _) _⟩
      · by_cases h3 : t.length < 1
        · have d3 : ((t.length : Int) < 1) := by omega
          go_enter Try.func105, Try.ntmps105
          go_wp2_with fail
          go_ret2
          exact ⟨ret_pair (by rw [HCW.out]) (by rw [HCW.out]), (Below.refl _ _).alloc (Nat.le_refl _) _⟩
        · have d3 : ¬ ((t.length : Int) < 1) := by omega
          have d4 : (20000 < (t.length : Int)) := by omega
          go_enter Try.func105, Try.ntmps105
          go_wp2_with fail
          go_ret2
          exact ⟨ret_pair (by rw [HCW.out]) (by rw [HCW.out]), (Below.refl _ _).alloc (Nat.le_refl _) _⟩
  · have hw' : 1 ≤ g ∧ g ≤ 16 ∧ 1 ≤ t.length ∧ t.length ≤ 20000 := by
      unfold wide at hw
      simp only [Bool.or_eq_true, decide_eq_true_eq] at hw
      omega
    obtain ⟨g1, g2, n1, n2⟩ := hw'
    have HNW := Lib.hid (Bool.eq_false_iff.2 hw)
    clear hw HCK
    have n3 : (1 : Int) ≤ (t.length : Int) := by omega
    have n4 : (t.length : Int) ≤ 20000 := by omega
    obtain ⟨b, off, rfl, hcell⟩ := HC.out (by omega)
    have HCELL := Lib.hid hcell
    clear hcell HC
    go_enter Try.func105, Try.ntmps105
    go_wp2_with fail
    go_loopw [30] (fun i wr => ∃ k : Nat, k ≤ t.length ∧ i = .int .i64 k ∧ (∀ j, j < k → rowBad g t.length (t.row j) = false) ∧ wr.cell? ⟨w.heap.size, 0, none⟩ = some (.slice (some ⟨b, off, none⟩) t.length c) ∧ Below w.heap.size w wr) (fun i _ => t.length - (intOf i).toNat)
    case atStart => exact ⟨0, Nat.zero_le _, rfl, fun j hj => absurd hj (by omega), by simp, (Below.refl _ _).alloc (Nat.le_refl _) _⟩
    case round =>
      obtain ⟨k, hk, rfl, hz, hbox, hbel⟩ := hrel
      have HZ := Lib.hid hz
      have HB := Lib.hid hbel
      clear hz hbel
      have hk0 : (0 : Int) ≤ (k : Int) := Int.natCast_nonneg _
      by_cases hlt : k < t.length
      · obtain ⟨u, hu, hI⟩ := HCELL.out k hlt
        have hu' := (HB.out.cell (p := ⟨b, off + k, none⟩) (World.block_lt_of_cell? w _ hu)).trans hu
        have hI' := hI.below HB.out
        clear hu hI
        have hI2 : IntsAt wr u (t.row k) := hI'
        clear hI'
        obtain ⟨A2, c2, rfl, hd1, hd2, hd⟩ := hI2.open_
        clear hd
        by_cases hlen : ((t.row k).length : Int) = 2 * g
        · have d1 : (((t.row k).length : Int) != 2 * g) = false := by simpa using hlen
          have HRB := Lib.hid (rowBad_of (n := (t.length : Int)) hlen)
          have HP := Lib.hid (has103_any 114 _ _ _ wr eg104 (pred104 _ t.length c w.heap.size wr (by omega) hbox) _ (t.row k) hI2 hI2.2)
          have HC3 : Hid (rowOut t.length (t.row k) = true → check g t = (2, (k : Int))) := Lib.hid fun h => by
            rw [check_row HNW.out hlt HZ.out (by rw [HRB.out]; exact h), if_neg (by simpa using hlen)]
          clear hI2
          have HL := Lib.hid hlen
          clear hlen
          have HOB : Hid ((t.row k).any (outB t.length) = rowOut t.length (t.row k)) := Lib.hid rfl
          rw [HOB.out] at HP
          cases hro : rowOut t.length (t.row k) with
          | true =>
            rw [hro] at HP
            have HRO := Lib.hid hro
            clear hro
            have HBOX := Lib.hid hbox
            clear hbox
            go_wp2_with (go_at_call 113; (refine HP.out.mono ?_); rintro e w' ⟨rfl, q, rfl⟩)
            go_ret2
            exact ⟨ret_pair (by rw [HC3.out HRO.out]) (by rw [HC3.out HRO.out]), below_drewN HB.out q⟩
          | false =>
            rw [hro] at HP
            have HRO := Lib.hid hro
            clear hro
            go_wp2_with (go_at_call 113; (refine HP.out.mono ?_); rintro e w' ⟨rfl, q, rfl⟩)
            go_roundw
            case rel => exact ⟨k + 1, by omega, by go_num, all_succ HZ.out (by rw [HRB.out]; exact HRO.out), hbox, below_drewN HB.out q⟩
            case measure => simp [intOf]; omega
        · have d1 : (((t.row k).length : Int) != 2 * g) = true := by simpa using hlen
          have HC2 : Hid (check g t = (3, (k : Int))) := Lib.hid (by rw [check_row HNW.out hlt HZ.out (rowBad_len hlen), if_pos hlen])
          have HL := Lib.hid hlen
          clear hlen
          go_wp2_with fail
          go_ret2
          exact ⟨ret_pair (by rw [HC2.out]) (by rw [HC2.out]), HB.out⟩
      · obtain rfl : k = t.length := by omega
        have HR := HZ
        have HLEN : Hid (∀ r, r < t.length → ((t.row r).length : Int) = 2 * g ∧ ∀ c, c < (t.row r).length → -1 ≤ t.at r c ∧ t.at r c < t.length) := Lib.hid fun r hr => by
          have h1 := HR.out r hr
          unfold rowBad at h1
          rw [Bool.or_eq_false_iff] at h1
          exact ⟨by simpa using h1.1, rowOut_false h1.2⟩
        clear HZ
        go_wp2_with fail
        go_loopw [48] (fun i wr => ∃ k : Nat, k ≤ t.length ∧ i = .int .i64 k ∧ (∀ j, j < k → sumBad t (2 * g).toNat j = false) ∧ wr.cell? ⟨w.heap.size, 0, none⟩ = some (.slice (some ⟨b, off, none⟩) t.length c) ∧ Below w.heap.size w wr) (fun i _ => t.length - (intOf i).toNat)
        case atStart => exact ⟨0, Nat.zero_le _, rfl, fun j hj => absurd hj (by omega), hbox, HB.out⟩
        case round =>
          clear HB hbox
          rename World => w0
          obtain ⟨k, hk, rfl, hz, hbox, hbel⟩ := hrel
          have HZ := Lib.hid hz
          have HB := Lib.hid hbel
          clear hz hbel
          have hk0 : (0 : Int) ≤ (k : Int) := Int.natCast_nonneg _
          by_cases hlt : k < t.length
          · obtain ⟨u, hu, hI⟩ := HCELL.out k hlt
            have hu' := (HB.out.cell (p := ⟨b, off + k, none⟩) (World.block_lt_of_cell? w _ hu)).trans hu
            clear hu
            have hI2 : IntsAt w u (t.row k) := hI
            clear hI
            obtain ⟨A2, c2, rfl, hd1, hd2, hd⟩ := hI2.open_
            have hl2 := (HLEN.out k hlt).1
            have HD := Lib.hid hd
            clear hd
            obtain ⟨b2, o2, rfl, hd'⟩ := HD.out (by omega)
            have HD2 := Lib.hid hd'
            clear hd' HD hI2
            have HL2 := Lib.hid hl2
            have hl3 : ((t.row k).length : Int) ≤ 32 := by omega
            clear hl2
            go_wp2_with fail
            go_loopw [55] (fun i wr => ∃ c0 : Nat, c0 ≤ (t.row k).length ∧ i = .int .i64 c0 ∧ (∀ j, j < c0 → sumAt t k j = false) ∧ wr.cell? ⟨w.heap.size, 0, none⟩ = some (.slice (some ⟨b, off, none⟩) t.length c) ∧ Below w.heap.size w wr) (fun i _ => (t.row k).length - (intOf i).toNat)
            case atStart => exact ⟨0, Nat.zero_le _, rfl, fun j hj => absurd hj (by omega), hbox, HB.out⟩
            case round =>
              clear HB hbox hu'
              rename World => w1
              obtain ⟨j, hj, rfl, hzj, hbox, hbel⟩ := hrel
              have HZJ := Lib.hid hzj
              have HB := Lib.hid hbel
              clear hzj hbel
              have hj0 : (0 : Int) ≤ (j : Int) := Int.natCast_nonneg _
              by_cases hjl : j < (t.row k).length
              · have hx := HD2.out j hjl
                have hx' := (HB.out.cell (p := ⟨b2, o2 + j, none⟩) (World.block_lt_of_cell? w _ hx)).trans hx
                clear hx
                have hbd := (HLEN.out k hlt).2 j hjl
                have HSA : Hid (sumAt t k j = (decide (0 ≤ t.at k j) && decide (t.at (t.at k j).toNat (flp j) ≠ (k : Int)))) := Lib.hid rfl
                have hat : (t.row k).getD j 0 = t.at k j := rfl
                rw [hat] at hx'
                clear hat
                generalize t.at k j = s at *
                by_cases hs : s < 0
                · have HS : Hid (sumAt t k j = false) := Lib.hid (by rw [HSA.out]; simp; omega)
                  go_wp2_with fail
                  go_roundw
                  case rel => exact ⟨j + 1, by omega, by go_num, all_succ HZJ.out HS.out, hbox, HB.out⟩
                  case measure => simp [intOf]; omega
                · obtain ⟨s', rfl⟩ := Int.eq_ofNat_of_zero_le (by omega : 0 ≤ s)
                  have hs' : s' < t.length := by omega
                  obtain ⟨u3, hu3, hI3⟩ := HCELL.out s' hs'
                  have hu3' := (HB.out.cell (p := ⟨b, off + s', none⟩) (World.block_lt_of_cell? w _ hu3)).trans hu3
                  clear hu3
                  have hI4 : IntsAt w u3 (t.row s') := hI3
                  clear hI3
                  obtain ⟨A3, c3, rfl, he1, he2, he⟩ := hI4.open_
                  have hl4 := (HLEN.out s' hs').1
                  have HE := Lib.hid he
                  clear he
                  obtain ⟨b3, o3, rfl, he'⟩ := HE.out (by omega)
                  have hfl : flp j < (t.row s').length := by
                    have := flp_lt (c := j) (m := g.toNat) (by have := HL2.out; omega)
                    omega
                  have hy := he' (flp j) hfl
                  have hy' := (HB.out.cell (p := ⟨b3, o3 + flp j, none⟩) (World.block_lt_of_cell? w _ hy)).trans hy
                  have hfe := flp_eq j (by omega)
                  have hf0 : (0 : Int) ≤ ((flp j : Nat) : Int) := Int.natCast_nonneg _
                  have hf1 : ((flp j : Nat) : Int) < ((t.row s').length : Int) := by omega
                  clear hy he' HE hI4
                  have hat2 : (t.row s').getD (flp j) 0 = t.at s' (flp j) := rfl
                  rw [hat2] at hy'
                  have HS2 : Hid (sumAt t k j = decide (t.at s' (flp j) ≠ (k : Int))) := Lib.hid (by rw [HSA.out]; simp)
                  clear hat2
                  generalize t.at s' (flp j) = x at *
                  have hs0 : (0 : Int) ≤ (s' : Int) := Int.natCast_nonneg _
                  have hs1 : (s' : Int) < (t.length : Int) := by omega
                  have HL4 := Lib.hid hl4
                  clear hl4
                  by_cases hxk : x = (k : Int)
                  · have d5 : (x != (k : Int)) = false := by simpa using hxk
                    have HXK : Hid (sumAt t k j = false) := Lib.hid (by rw [HS2.out]; simpa using hxk)
                    clear hxk
                    go_wp2_with fail
                    go_roundw
                    case rel => exact ⟨j + 1, by omega, by go_num, all_succ HZJ.out HXK.out, hbox, HB.out⟩
                    case measure => simp [intOf]; omega
                  · have d5 : (x != (k : Int)) = true := by simpa using hxk
                    have HXK : Hid (sumAt t k j = true) := Lib.hid (by rw [HS2.out]; simpa using hxk)
                    have HC4 : Hid (check g t = (14, (k : Int))) := Lib.hid (check_sum HNW.out HR.out hlt HZ.out (sumBad_true (by have := HL2.out; omega) HXK.out))
                    clear hxk
                    go_wp2_with fail
                    go_ret2
                    exact ⟨ret_pair (by rw [HC4.out]) (by rw [HC4.out]), HB.out⟩
              · obtain rfl : j = (t.row k).length := by omega
                go_wp2_with fail
                go_roundw
                case rel => exact ⟨k + 1, by omega, by go_num, all_succ HZ.out (sumBad_false fun c0 hc0 => HZJ.out c0 (by have := HL2.out; omega)), hbox, HB.out⟩
                case measure => simp [intOf]; omega
          · obtain rfl : k = t.length := by omega
            go_wp2_with fail
            go_ret2
            exact ⟨ret_pair (by rw [check_fine HNW.out HR.out HZ.out]) (by rw [check_fine HNW.out HR.out HZ.out]), HB.out⟩
end Go.Proofs.B18
