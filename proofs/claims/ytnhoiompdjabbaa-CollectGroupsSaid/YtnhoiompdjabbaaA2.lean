/- The collector's memory, and the contracts of (*collector).times and (*collector).by; The contract of Check's fourth check: the product of the orders; The contract of the law's same; Plain: the overlaps, in the order in which both texts compare them; The contract of cayleykit.KnownPc; By; T3. -/
import Derived.Test.YtnhoiompdjabbaaProg
import Derived.Test.YtnhoiompdjabbaaA1
import Derived.Deep.MidRow
import Derived.Deep.WholeRow
import Derived.Lib.SliceRun
namespace Go.Proofs
open Go.RowKit Go.Proofs.Pc

def vec (xs : List Int) : List Value := (List.range 12).map fun k => Value.int .i64 (xs.getD k 0)
theorem length_vec (xs : List Int) : (vec xs).length = 12 := by simp [vec]
theorem getElem?_vec (xs : List Int) {k : Nat} (hk : k < 12) : (vec xs)[k]? = some (.int .i64 (xs.getD k 0)) := by
  simp [vec, List.getElem?_map, List.getElem?_range hk]
theorem vec_set (xs : List Int) {i : Nat} (hi : i < xs.length) (v : Int) : (vec xs).set i (.int .i64 v) = vec (xs.set i v) := by
  apply List.ext_getElem?
  intro k
  rw [List.getElem?_set]
  rcases Nat.lt_or_ge k 12 with hk | hk
  · rw [getElem?_vec _ hk, getElem?_vec _ hk, getD_set]
    by_cases h : i = k
    · subst h; simp [hi, length_vec, hk]
    · simp [h]
  · rw [List.getElem?_eq_none (by rw [length_vec]; exact hk), List.getElem?_eq_none (by rw [length_vec]; exact hk)]
    by_cases h : i = k
    · subst h; simp [length_vec]; omega
    · simp [h]

structure RulesAt (w : World) (br : Nat) (P : PcD) : Prop where
  n : w.cell? ⟨br, 0, none⟩ = some (.int .i64 P.n)
  ord : w.rangeAt br 1 (vec P.orders)
  pow : ∀ i, i < 12 → w.rangeAt br (13 + i * 12) (vec (P.pow i))
  cj : ∀ j, j < 12 → ∀ i, i < 12 → w.rangeAt br (157 + j * 144 + i * 12) (vec (P.cj j i))

def CollAt (w : World) (bc br : Nat) (x : List Int) : Prop := w.heap[bc]? = some (.cells (Value.pointer (some ⟨br, 0, none⟩) :: vec x).toArray 113 (0, 0))

section
variable {w w' : World} {bc br : Nat} {x : List Int} {P : PcD}

theorem rangeAt_keep {b o : Nat} {cs : List Value} (h : w.rangeAt b o cs) (hk : w'.heap[b]? = w.heap[b]?) : w'.rangeAt b o cs := fun j v hv => by
  rw [World.cell?_of_block (a := ⟨b, o + j, none⟩) hk]; exact h j v hv

theorem RulesAt.lt (h : RulesAt w br P) : br < w.heap.size := World.block_lt_of_cell? w _ h.n
theorem RulesAt.block (h : RulesAt w br P) (hk : w'.heap[br]? = w.heap[br]?) : RulesAt w' br P :=
  ⟨(World.cell?_of_block (a := ⟨br, 0, none⟩) hk).trans h.n, rangeAt_keep h.ord hk, fun i hi => rangeAt_keep (h.pow i hi) hk, fun j hj i hi => rangeAt_keep (h.cj j hj i hi) hk⟩
theorem RulesAt.grown {row : Option Nat} (h : RulesAt w br P) (hg : w.grownBy w' row) (hne : some br ≠ row) : RulesAt w' br P := h.block (hg.block br h.lt hne)
theorem RulesAt.below (h : RulesAt w br P) (hb : Below w.heap.size w w') : RulesAt w' br P := h.block (hb.block br h.lt)
theorem RulesAt.ordc (h : RulesAt w br P) {i : Nat} (hi : i < 12) : w.cell? ⟨br, 1 + i, none⟩ = some (.int .i64 (P.ord i)) := h.ord i _ (getElem?_vec _ hi)

theorem CollAt.lt (h : CollAt w bc br x) : bc < w.heap.size := (Array.getElem?_eq_some_iff.1 h).1
theorem CollAt.ptr (h : CollAt w bc br x) : w.cell? ⟨bc, 0, none⟩ = some (.pointer (some ⟨br, 0, none⟩)) := by
  rw [cell_of_row w bc 0 _ _ _ h]; rfl
theorem CollAt.range (h : CollAt w bc br x) : w.rangeAt bc 1 (vec x) := fun j v hv => by
  rw [cell_of_row w bc (1 + j) _ _ _ h]
  simp [Nat.add_comm 1 j, hv]
theorem CollAt.cell (h : CollAt w bc br x) {k : Nat} (hk : k < 12) : w.cell? ⟨bc, 1 + k, none⟩ = some (.int .i64 (x.getD k 0)) := h.range k _ (getElem?_vec _ hk)
theorem CollAt.frozen (h : CollAt w bc br x) (k : Nat) : w.frozen? ⟨bc, k, none⟩ = false := frozen_of_row w bc k _ _ h
theorem CollAt.there (h : CollAt w bc br x) : w.there bc 1 12 := fun j hj => ⟨by rw [h.cell hj]; rfl, h.frozen _⟩
theorem CollAt.block (h : CollAt w bc br x) (hk : w'.heap[bc]? = w.heap[bc]?) : CollAt w' bc br x := hk.trans h
theorem CollAt.grown {row : Option Nat} (h : CollAt w bc br x) (hg : w.grownBy w' row) (hne : some bc ≠ row) : CollAt w' bc br x := h.block (hg.block bc h.lt hne)
theorem CollAt.below (h : CollAt w bc br x) (hb : Below w.heap.size w w') : CollAt w' bc br x := h.block (hb.block bc h.lt)
theorem CollAt.set {i : Nat} (h : CollAt w bc br x) (hi : i < x.length) (v : Int) : CollAt (w.setCell ⟨bc, 1 + i, none⟩ (.int .i64 v)) bc br (x.set i v) := by
  unfold CollAt
  rw [← vec_set x hi]
  have h' : w.heap[bc]? = some (.cells (Value.pointer (some ⟨br, 0, none⟩) :: vec x).toArray 113 (0, 0)) := h
  simp [World.setCell, Array.getElem?_modify, h', Nat.add_comm 1 i]
end

/-- frames: extra words -/
theorem only_alloc {a w : World} {row : Option Nat} (h : a.grownBy w row) (o : Obj) : a.grownBy (w.alloc o) row :=
  ⟨h.os, h.tape, h.output, Nat.le_trans h.size (by simp), fun i hi hne => (Below.heap_alloc w o i (Nat.lt_of_lt_of_le hi h.size)).trans (h.block i hi hne)⟩
theorem only_drewN {a w : World} {row : Option Nat} (h : a.grownBy w row) (n : Nat) : a.grownBy (w.drewN n) row := ⟨h.os, h.tape, h.output, h.size, h.block⟩
theorem only_drew {a w : World} {row : Option Nat} (h : a.grownBy w row) : a.grownBy w.drew row := ⟨h.os, h.tape, h.output, h.size, h.block⟩
theorem only_setCell {a w : World} {g : Nat} (h : a.grownBy w (some g)) {p : Addr} (hp : p.block = g ∨ a.heap.size ≤ p.block) (u : Value) : a.grownBy (w.setCell p u) (some g) :=
  ⟨h.os, h.tape, h.output, by simpa [World.setCell] using h.size, fun i hi hne => (Below.heap_setCell w p u i (by
    rintro rfl
    rcases hp with hp | hp
    · exact hne (by rw [hp])
    · omega)).trans (h.block i hi hne)⟩
theorem only_of_below {a w : World} (h : Below a.heap.size a w) (row : Option Nat) : a.grownBy w row := ⟨h.os, h.tape, h.output, h.size, fun i hi _ => h.block i hi⟩
theorem only_trans {a b c : World} {row : Option Nat} (h : a.grownBy b row) (k : b.grownBy c row) : a.grownBy c row :=
  ⟨k.os.trans h.os, k.tape.trans h.tape, k.output.trans h.output, Nat.le_trans h.size k.size, fun i hi hne => (k.block i (Nat.lt_of_lt_of_le hi h.size) hne).trans (h.block i hi hne)⟩

theorem oneCell_vec (xs : List Int) : (vec xs).toArray.all (·.oneCell') = true := all_oneCell_toArray (by intro v hv; simp [vec] at hv; obtain ⟨k, _, rfl⟩ := hv; rfl)
theorem size_vec (xs : List Int) : (vec xs).toArray.size = 12 := by simp [length_vec]
theorem info82 : (Try.prog.info? 82).map (·.size) = some 12 := by kernel_rfl

/-- A whole vector is stored into the block that was just made. -/
theorem store_vec_new (w : World) (x : List Int) : Sem.run Try.prog (storeCells ⟨w.heap.size, 0, none⟩ (vec x)) (w.alloc (.cells #[.int .i64 0, .int .i64 0, .int .i64 0, .int .i64 0, .int .i64 0, .int .i64 0, .int .i64 0, .int .i64 0, .int .i64 0, .int .i64 0, .int .i64 0, .int .i64 0] 82)) =
    .ok () (w.alloc (.cells (vec x).toArray 82)) :=
  run_storeCells_new (P := Try.prog) w 82 _ (vec x).toArray (by rw [size_vec]; exact info82) (by rw [size_vec]; rfl) (oneCell_vec x)

/-- What a call of times, by does: the collector's vector becomes y. -/
def Turned (w : World) (bc br : Nat) (y : List Int) (e : Ending) (w' : World) : Prop := e = .returned (.tuple #[]) ∧ CollAt w' bc br y ∧ w.grownBy w' (some bc)

def TimesOk (P : PcD) (d : Nat) : Prop := ∀ (w : World) (bc br : Nat) (x : List Int) (i : Nat), CollAt w bc br x → RulesAt w br P → bc ≠ br → NV P x → i < P.n → P.n ≤ i + d →
    Calls Try.prog 79 #[.pointer (some ⟨bc, 0, none⟩), .int .i64 i] w (Turned w bc br (timesF P d i x))
def ByOk (P : PcD) (d : Nat) : Prop := ∀ (w : World) (bc br : Nat) (x y : List Int), CollAt w bc br x → RulesAt w br P → bc ≠ br → NV P x → (∀ k, k < P.n → 0 ≤ y.getD k 0 ∧ y.getD k 0 ≤ 1000 ∧ (0 < y.getD k 0 → P.n ≤ k + d)) →
    Calls Try.prog 80 #[.pointer (some ⟨bc, 0, none⟩), .agg (vec y).toArray] w (Turned w bc br (byF (timesF P d) P.n y x))
end Go.Proofs
namespace Go.Proofs
open Go.RowKit Go.Proofs.Pc

theorem prod_pos {P : PcD} (ho : ∀ k, k < P.n → ordErr P k = 0) : ∀ k, k ≤ P.n → 1 ≤ prod P k
  | 0, _ => by simp [prod, foldTo]
  | k + 1, h => by
    have ih := prod_pos ho k (by omega)
    have h1 := ho k (by omega)
    have h2 : 2 ≤ P.ord k := by
      unfold ordErr at h1
      by_cases hc : 2 ≤ P.ord k ∧ P.ord k ≤ 1000
      · exact hc.1
      · rw [if_neg hc] at h1; cases h1
    show 1 ≤ prod P k * P.ord k
    have : 1 * 1 ≤ prod P k * P.ord k := Int.mul_le_mul ih (by omega) (by omega) (by omega)
    omega
theorem prod_le {P : PcD} {k : Nat} (h : firstNZ (overErr P) k = 0) : prod P k ≤ 50000 := by
  cases k with
  | zero => simp [prod, foldTo]
  | succ k =>
    have := firstNZ_zero h k (by omega)
    unfold overErr at this
    by_cases hc : prod P (k + 1) ≤ 50000
    · exact hc
    · rw [if_neg hc] at this; cases this

set_option maxHeartbeats 400000 in
theorem chk4_any (w0 w : World) (bp bo : Nat) (v0 : Value) (P : PcD) (hp : w.cell? ⟨bp, 0, none⟩ = some v0) (h0 : IntsAt w0 v0 P.orders) (hb : Below w0.heap.size w0 w) (hbo : w0.heap.size ≤ bo) (_hne : bp ≠ bo)
    (hc : w.cell? ⟨bo, 0, none⟩ = some (.int .i64 1)) (hf : w.frozen? ⟨bo, 0, none⟩ = false) (ho : ∀ k, k < P.n → ordErr P k = 0) :
    Calls Try.prog 62 #[.pointer (some ⟨bp, 0, none⟩), .pointer (some ⟨bo, 0, none⟩)] w fun e w' => e = .returned (.tuple #[.int .i64 (firstNZ (overErr P) P.n), .int .i64 0]) ∧ w.grownBy w' (some bo) := by
  obtain ⟨A, ca, rfl, ha1, ha2, ha⟩ := h0.open_
  have HA := Lib.hid ha
  have HO := Lib.hid ho
  clear ha h0 ho
  have hsz := hb.size
  go_enter Try.func62, Try.ntmps62
  go_wp2_with fail
  go_loopw [5, 9] (fun _ i wr => ∃ k : Nat, k ≤ P.n ∧ i = .int .i64 k ∧ wr.cell? ⟨bo, 0, none⟩ = some (.int .i64 (prod P k)) ∧ wr.frozen? ⟨bo, 0, none⟩ = false ∧ firstNZ (overErr P) k = 0 ∧ w.grownBy wr (some bo)) (fun _ i _ => P.n - (intOf i).toNat)
  case atStart => exact ⟨0, Nat.zero_le _, rfl, hc, hf, rfl, World.grownBy.refl _ _⟩
  case round =>
    obtain ⟨k, hk, rfl, hcr, hfr, hz, hg⟩ := hrel
    have hle := prod_le hz
    have hpos := prod_pos HO.out k hk
    have HZ := Lib.hid hz
    clear hz hc hf
    by_cases hlt : k < P.n
    · obtain ⟨b, off, rfl, hcl⟩ := HA.out (by show 0 < P.n; omega)
      have c0 := hcl k hlt
      have hbl := World.block_lt_of_cell? w0 _ c0
      have c1 : wr.cell? ⟨b, off + k, none⟩ = some (.int .i64 (P.ord k)) := by
        rw [World.cell?_of_block (w := w) (a := ⟨b, off + k, none⟩) (hg.block b (by simp at hbl; omega) (by simp at hbl ⊢; omega)), hb.cell (p := ⟨b, off + k, none⟩) hbl]
        exact c0
      have ho1 := HO.out k hlt
      have ho2 : 2 ≤ P.ord k ∧ P.ord k ≤ 1000 := by
        unfold ordErr at ho1
        by_cases hc : 2 ≤ P.ord k ∧ P.ord k ≤ 1000
        · exact hc
        · rw [if_neg hc] at ho1; cases ho1
      have hps : prod P (k + 1) = prod P k * P.ord k := rfl
      have hpm : prod P k * P.ord k ≤ 50000 * 1000 := Int.mul_le_mul hle ho2.2 (by omega) (by omega)
      have hpm0 : 1 * 1 ≤ prod P k * P.ord k := Int.mul_le_mul hpos (by omega) (by omega) (by omega)
      have HPS := Lib.hid hps
      have hov : overErr P k = if prod P k * P.ord k ≤ 50000 then 0 else 5 := rfl
      have HOV := Lib.hid hov
      clear hcl c0 ho1 hps hov
      have hwrap : IntKind.i64.wrap (prod P k * P.ord k) = prod P k * P.ord k := IntWalk.i64_in _ (by omega)
      generalize prod P k = a at *
      generalize P.ord k = o at *
      by_cases hbig : a * o ≤ 50000
      · have HBig := Lib.hid hbig
        go_wp2_with fail
        go_roundw
        case rel => exact ⟨k + 1, by omega, by go_num, by (rw [HPS.out]; exact World.cell?_setCell_same _ _ _ hcr), by (rw [World.frozen?_setCell]; exact hfr), firstNZ_step HZ.out (HOV.out.trans (if_pos HBig.out)), only_setCell hg (.inl rfl) _⟩
        case measure => simp [intOf]; omega
      · have HBig := Lib.hid hbig
        go_wp2_with fail
        go_ret2
        refine ⟨ret_pair ?_ rfl, only_setCell hg (.inl rfl) _⟩
        have h5 : overErr P k = 5 := HOV.out.trans (if_neg (Int.not_le.2 HBig.out))
        rw [firstNZ_hit HZ.out (by rw [h5]; decide) P.n hlt, h5]
    · have hkn : k = P.n := by omega
      subst hkn
      have hpl : P.orders.length = P.n := rfl
      go_wp2_with fail
      go_ret2
      exact ⟨ret_pair HZ.out.symm rfl, hg⟩
end Go.Proofs
namespace Go.Proofs
open Go.RowKit Go.Proofs.Pc

def sameB (P Q : PcD) : Bool := decide (P.orders = Q.orders) && decide (P.powers = Q.powers) && decide (P.conj = Q.conj)
theorem sameB_iff {P Q : PcD} : sameB P Q = true ↔ P = Q := by
  cases P; cases Q
  simp [sameB, and_assoc]

/-- two boxes of three values lie behind w -/
structure Two (w : World) (a0 a1 a2 b0 b1 b2 : Value) (wr : World) : Prop where
  c0 : wr.cell? ⟨w.heap.size, 0, none⟩ = some a0
  c1 : wr.cell? ⟨w.heap.size, 1, none⟩ = some a1
  c2 : wr.cell? ⟨w.heap.size, 2, none⟩ = some a2
  d0 : wr.cell? ⟨w.heap.size + 1, 0, none⟩ = some b0
  d1 : wr.cell? ⟨w.heap.size + 1, 1, none⟩ = some b1
  d2 : wr.cell? ⟨w.heap.size + 1, 2, none⟩ = some b2
  below : Below w.heap.size w wr
theorem Two.new (w : World) (a0 a1 a2 b0 b1 b2 : Value) : Two w a0 a1 a2 b0 b1 b2 ((w.alloc (.cells #[a0, a1, a2] 26)).alloc (.cells #[b0, b1, b2] 26)) := by
  have hb : Below (w.heap.size + 1) (w.alloc (.cells #[a0, a1, a2] 26)) ((w.alloc (.cells #[a0, a1, a2] 26)).alloc (.cells #[b0, b1, b2] 26)) := (Below.refl _ _).alloc (by simp) _
  have h1 : ∀ j, ((w.alloc (.cells #[a0, a1, a2] 26)).alloc (.cells #[b0, b1, b2] 26)).cell? ⟨w.heap.size, j, none⟩ = #[a0, a1, a2][j]? := fun j => (hb.cell (p := ⟨w.heap.size, j, none⟩) (by simp)).trans (cell_of_row _ _ _ _ _ _ (heap_alloc_new w _))
  have h2 : ∀ j, ((w.alloc (.cells #[a0, a1, a2] 26)).alloc (.cells #[b0, b1, b2] 26)).cell? ⟨w.heap.size + 1, j, none⟩ = #[b0, b1, b2][j]? := fun j => by
    have := cell_of_row _ _ j _ _ _ (heap_alloc_new (w.alloc (.cells #[a0, a1, a2] 26)) (.cells #[b0, b1, b2] 26))
    rwa [World.size_alloc] at this
  exact ⟨h1 0, h1 1, h1 2, h2 0, h2 1, h2 2, ((Below.refl _ _).alloc (Nat.le_refl _) _).alloc (by simp) _⟩
theorem Two.step {w wr w' : World} {a0 a1 a2 b0 b1 b2 : Value} (h : Two w a0 a1 a2 b0 b1 b2 wr) (hb : Below wr.heap.size wr w') : Two w a0 a1 a2 b0 b1 b2 w' := by
  have hk : ∀ {b j : Nat} {v : Value}, wr.cell? ⟨b, j, none⟩ = some v → w'.cell? ⟨b, j, none⟩ = some v := fun {b j v} hc => (hb.cell (p := ⟨b, j, none⟩) (World.block_lt_of_cell? wr _ hc)).trans hc
  exact ⟨hk h.c0, hk h.c1, hk h.c2, hk h.d0, hk h.d1, hk h.d2, h.below.trans (hb.mono h.below.size)⟩

theorem equal_yes (w : World) (va vb : Value) (xs ys : List Int) (ha : IntsAt w va xs) (hb : IntsAt w vb ys) (h : xs = ys) :
    Calls Try.prog 31 #[va, vb] w fun e w' => e = .returned (.bool true) ∧ Below w.heap.size w w' := (equal_any w va vb xs ys ha hb).mono fun _ _ ⟨he, hb⟩ => ⟨by rw [he]; simp [h], hb⟩
theorem equal_no (w : World) (va vb : Value) (xs ys : List Int) (ha : IntsAt w va xs) (hb : IntsAt w vb ys) (h : xs ≠ ys) :
    Calls Try.prog 31 #[va, vb] w fun e w' => e = .returned (.bool false) ∧ Below w.heap.size w w' := (equal_any w va vb xs ys ha hb).mono fun _ _ ⟨he, hb⟩ => ⟨by rw [he]; simp [h], hb⟩
theorem same18_yes (w : World) (va vb : Value) (A B : List (List Int)) (ha : Tab w va A) (hb : Tab w vb B) (h : A = B) :
    Calls Try.prog 55 #[va, vb] w fun e w' => e = .returned (.bool true) ∧ ∃ q, w' = w.drewN q := (same18_any w va vb A B ha hb).mono fun _ _ ⟨he, hb⟩ => ⟨by rw [he]; simp [h], hb⟩
theorem same18_no (w : World) (va vb : Value) (A B : List (List Int)) (ha : Tab w va A) (hb : Tab w vb B) (h : A ≠ B) :
    Calls Try.prog 55 #[va, vb] w fun e w' => e = .returned (.bool false) ∧ ∃ q, w' = w.drewN q := (same18_any w va vb A B ha hb).mono fun _ _ ⟨he, hb⟩ => ⟨by rw [he]; simp [h], hb⟩
theorem same18_left {w : World} {va vb : Value} {A B : List (List Int)} {b : Bool} (a n : Nat) (ha : Tab w va A) (hb : Tab w vb B) (h : decide (A = B) = b) :
    Calls Try.prog 55 #[va, vb] (w.drewN (a + n)) fun e w'' => e = .returned (.bool b) ∧ ∃ m, w'' = w.drewN (a + m) :=
  (same18_any (w.drewN (a + n)) va vb A B (Kept.below kept_tab ha (below_drewN (Below.refl _ _) _)) (Kept.below kept_tab hb (below_drewN (Below.refl _ _) _))).mono fun _ _ ⟨he, q, hq⟩ => ⟨by rw [he, h], n + q, by rw [hq, World.drewN_drewN, Nat.add_assoc]⟩
theorem Two.drewN {w wr : World} {a0 a1 a2 b0 b1 b2 : Value} (h : Two w a0 a1 a2 b0 b1 b2 wr) (q : Nat) : Two w a0 a1 a2 b0 b1 b2 (wr.drewN q) := h.step (below_drewN (Below.refl _ _) q)

set_option maxRecDepth 100000 in
set_option maxHeartbeats 1000000 in
theorem same_any (w : World) (a0 a1 a2 b0 b1 b2 : Value) (P Q : PcD) (hP : PcAt w a0 a1 a2 P) (hQ : PcAt w b0 b1 b2 Q) :
    Calls Try.prog 20 #[.agg #[a0, a1, a2], .agg #[b0, b1, b2]] w fun e w' => e = .returned (.bool (sameB P Q)) ∧ Below w.heap.size w w' := by
  have HP0 := Lib.hid hP.1
  have HQ0 := Lib.hid hQ.1
  have HP1 := Lib.hid hP.2.1
  have HQ1 := Lib.hid hQ.2.1
  obtain ⟨A0, n0, rfl, -⟩ := hP.1.open_
  obtain ⟨A1, n1, rfl, -⟩ := hP.2.1.open_
  obtain ⟨A2, n2, rfl, ha1, ha2, ha⟩ := hP.2.2.open_
  obtain ⟨B0, m0, rfl, -⟩ := hQ.1.open_
  obtain ⟨B1, m1, rfl, -⟩ := hQ.2.1.open_
  obtain ⟨B2, m2, rfl, hb1, hb2, hb⟩ := hQ.2.2.open_
  have HA := Lib.hid ha
  have HB := Lib.hid hb
  clear hP hQ ha hb
  have HT := Lib.hid (Two.new w (.slice A0 P.orders.length n0) (.slice A1 P.powers.length n1) (.slice A2 P.conj.length n2) (.slice B0 Q.orders.length m0) (.slice B1 Q.powers.length m1) (.slice B2 Q.conj.length m2))
  by_cases h0 : P.orders = Q.orders
  · have H0 := Lib.hid h0
    clear h0
    by_cases h1 : P.powers = Q.powers
    · have H1 := Lib.hid h1
      clear h1
      by_cases h2 : P.conj.length = Q.conj.length
      · have d1 : ((P.conj.length : Int) != (Q.conj.length : Int)) = false := by simp; omega
        have d2 : (P.conj.length != Q.conj.length) = false := by simp; omega
        have H2 := Lib.hid h2
        clear h2
        go_enter Try.func20, Try.ntmps20
        go_wp2_with (first
          | (go_at_call 31; (with_reducible refine (equal_yes _ _ _ P.orders Q.orders (HP0.out.below HT.out.below) (HQ0.out.below HT.out.below) H0.out).mono ?_); rintro e w1 ⟨rfl, hb1⟩; have T1 := HT.out.step hb1; have c1 := T1.c1; have e1 := T1.d1; have HT1 := Lib.hid T1; clear T1 hb1)
          | (go_at_call 55; (with_reducible refine (same18_yes _ _ _ P.powers Q.powers (kept_tab.below HP1.out HT1.out.below) (kept_tab.below HQ1.out HT1.out.below) H1.out).mono ?_); rintro e w2 ⟨rfl, q, rfl⟩; have c2 := HT1.out.c2; have e2 := HT1.out.d2))
        go_loopw [5] (fun i wr => ∃ k : Nat, k ≤ P.conj.length ∧ i = .int .i64 k ∧ (∀ j, j < k → P.conj.getD j [] = Q.conj.getD j []) ∧ ∃ q, wr = w1.drewN q) (fun i _ => P.conj.length - (intOf i).toNat)
        case atStart => exact ⟨0, Nat.zero_le _, rfl, fun j hj => absurd hj (by omega), _, rfl⟩
        case round =>
          obtain ⟨k, hk, rfl, hz, qk, rfl⟩ := hrel
          have HZ := Lib.hid hz
          clear hz
          by_cases hlt : k < P.conj.length
          · obtain ⟨b1, o1, rfl, hc1⟩ := HA.out (by omega)
            obtain ⟨b2, o2, rfl, hc2⟩ := HB.out (by rw [← H2.out]; omega)
            obtain ⟨u1, hu1, hr1⟩ := hc1 k hlt
            obtain ⟨u2, hu2, hr2⟩ := hc2 k (by rw [← H2.out]; omega)
            have hv1 : w1.cell? ⟨b1, o1 + k, none⟩ = some u1 := (HT1.out.below.cell (p := ⟨b1, o1 + k, none⟩) (World.block_lt_of_cell? w _ hu1)).trans hu1
            have hv2 : w1.cell? ⟨b2, o2 + k, none⟩ = some u2 := (HT1.out.below.cell (p := ⟨b2, o2 + k, none⟩) (World.block_lt_of_cell? w _ hu2)).trans hu2
            have HR1 := Lib.hid (kept_tab.below hr1 HT1.out.below)
            have HR2 := Lib.hid (kept_tab.below hr2 HT1.out.below)
            have hk0 : (0 : Int) ≤ (k : Int) := Int.natCast_nonneg _
            have hkb : (k : Int) < (Q.conj.length : Int) := by rw [← H2.out]; omega
            have hka : (k : Int) < (P.conj.length : Int) := by omega
            have HN := Lib.hid (fun h => getD_ne (A := P.conj) (B := Q.conj) (d := []) (k := k) h)
            clear hc1 hc2 hu1 hu2 hr1 hr2
            generalize hxe : P.conj.getD k [] = x at *
            generalize hye : Q.conj.getD k [] = y at *
            have HXE := Lib.hid hxe
            have HYE := Lib.hid hye
            clear hxe hye
            by_cases hxy : x = y
            · have HX := Lib.hid hxy
              clear hxy
              go_wp2_with fail
              go_quiet ((go_at_call 55; exact same18_left (b := true) _ _ HR1.out HR2.out (by simp [HX.out])))
              go_wp2_with fail
              go_roundw
              case rel => exact ⟨k + 1, by omega, by go_num, all_succ HZ.out (by rw [HXE.out, HYE.out]; exact HX.out), by first | exact ⟨_, rfl⟩ | exact ex_drewN⟩
              case measure => simp [intOf]; omega
            · have HX := Lib.hid hxy
              clear hxy
              go_wp2_with fail
              go_quiet ((go_at_call 55; exact same18_left (b := false) _ _ HR1.out HR2.out (by simp [HX.out])))
              go_wp2_with fail
              go_ret
              exact ⟨ret_bool (by have := HN.out HX.out; simp [sameB, this]), by first | exact below_drewN HT1.out.below _ | exact below_drewN (below_drewN HT1.out.below _) _⟩
          · obtain rfl : k = P.conj.length := by omega
            go_wp2_with fail
            go_ret
            exact ⟨ret_bool (by have := getD_ext H2.out HZ.out; simp [sameB, this, H0.out, H1.out]), below_drewN HT1.out.below _⟩
      · have d1 : ((P.conj.length : Int) != (Q.conj.length : Int)) = true := by simp; omega
        have d2 : (P.conj.length != Q.conj.length) = true := by simp; omega
        have H2 := Lib.hid h2
        clear h2
        go_enter Try.func20, Try.ntmps20
        go_wp2_with (first
          | (go_at_call 31; (with_reducible refine (equal_yes _ _ _ P.orders Q.orders (HP0.out.below HT.out.below) (HQ0.out.below HT.out.below) H0.out).mono ?_); rintro e w1 ⟨rfl, hb1⟩; have T1 := HT.out.step hb1; have c1 := T1.c1; have e1 := T1.d1; have HT1 := Lib.hid T1; clear T1 hb1)
          | (go_at_call 55; (with_reducible refine (same18_yes _ _ _ P.powers Q.powers (kept_tab.below HP1.out HT1.out.below) (kept_tab.below HQ1.out HT1.out.below) H1.out).mono ?_); rintro e w2 ⟨rfl, q, rfl⟩; have c2 := HT1.out.c2; have e2 := HT1.out.d2))
        go_ret
        exact ⟨ret_bool (by have : P.conj ≠ Q.conj := fun e => H2.out (by rw [e]); simp [sameB, this]), below_drewN HT1.out.below _⟩
    · have H1 := Lib.hid h1
      clear h1
      go_enter Try.func20, Try.ntmps20
      go_wp2_with (first
        | (go_at_call 31; (with_reducible refine (equal_yes _ _ _ P.orders Q.orders (HP0.out.below HT.out.below) (HQ0.out.below HT.out.below) H0.out).mono ?_); rintro e w1 ⟨rfl, hb1⟩; have T1 := HT.out.step hb1; have c1 := T1.c1; have e1 := T1.d1; have HT1 := Lib.hid T1; clear T1 hb1)
        | (go_at_call 55; (with_reducible refine (same18_no _ _ _ P.powers Q.powers (kept_tab.below HP1.out HT1.out.below) (kept_tab.below HQ1.out HT1.out.below) H1.out).mono ?_); rintro e w2 ⟨rfl, q, rfl⟩))
      go_ret
      exact ⟨ret_bool (by simp [sameB, H1.out]), below_drewN HT1.out.below _⟩
  · have H0 := Lib.hid h0
    clear h0
    go_enter Try.func20, Try.ntmps20
    go_wp2_with (first
      | (go_at_call 31; (with_reducible refine (equal_no _ _ _ P.orders Q.orders (HP0.out.below HT.out.below) (HQ0.out.below HT.out.below) H0.out).mono ?_); rintro e w1 ⟨rfl, hb1⟩; have HT1 := Lib.hid (HT.out.step hb1); clear hb1))
    go_ret
    exact ⟨ret_bool (by simp [sameB, H0.out]), HT1.out.below⟩
end Go.Proofs
namespace Go.Proofs.Pc

def uP (P : PcD) (i : Nat) (x : Int) : V := (List.range P.n).map fun k => if k = i then x else 0
def mulP (P : PcD) (x y : V) : V := byF (timesF P P.n) P.n y x

theorem getD_uP (P : PcD) (i k : Nat) (x : Int) : (uP P i x).getD k 0 = if k = i ∧ k < P.n then x else 0 := by
  unfold uP
  rcases Nat.lt_or_ge k P.n with hk | hk
  · simp [List.getD_eq_getElem?_getD, hk]
  · rw [List.getD_eq_getElem?_getD, List.getElem?_eq_none (by simpa using hk), if_neg (by omega)]
    rfl
theorem uP_NV {P : PcD} (hv : Valid P) {i : Nat} {x : Int} (hx : 0 ≤ x) (hx2 : i < P.n → x < P.ord i) : NV P (uP P i x) := by
  refine ⟨by simp [uP], fun k hk => ?_⟩
  rw [getD_uP]
  have := hv.ord2 k hk
  by_cases h : k = i ∧ k < P.n
  · rw [if_pos h]
    obtain ⟨rfl, _⟩ := h
    exact ⟨hx, hx2 hk⟩
  · rw [if_neg h]; omega
theorem mulP_NV {P : PcD} (hv : Valid P) {x y : V} (hx : NV P x) : NV P (mulP P x y) := byF_NV hv _ _ _ hx
theorem norm_NV {P : PcD} {y : V} {a : Nat} (h : Norm P y a) : NV P y := ⟨h.1, fun k hk => ⟨(h.2 k hk).1, (h.2 k hk).2.1⟩⟩

def pK (P : PcD) (i j k : Nat) : V × V := (mulP P (mulP P (uP P k 1) (uP P j 1)) (uP P i 1), mulP P (uP P k 1) (mulP P (uP P j 1) (uP P i 1)))
def pJ1 (P : PcD) (i j : Nat) : V × V := (mulP P (P.pow j) (uP P i 1), mulP P (uP P j (P.ord j - 1)) (mulP P (uP P j 1) (uP P i 1)))
def pJ2 (P : PcD) (i j : Nat) : V × V := (iter (timesF P P.n i) (P.ord i).toNat (uP P j 1), mulP P (uP P j 1) (P.pow i))
def pI (P : PcD) (i : Nat) : V × V := (mulP P (P.pow i) (uP P i 1), mulP P (uP P i 1) (P.pow i))

/-- the overlaps of i, j, and k below m -/
def ovK (P : PcD) (i j m : Nat) : List (V × V) := foldTo (fun t l => l ++ [pK P i j (j + 1 + t)]) (m - (j + 1)) []
def ovJ (P : PcD) (i m : Nat) : List (V × V) := foldTo (fun t l => l ++ ([pJ1 P i (i + 1 + t), pJ2 P i (i + 1 + t)] ++ ovK P i (i + 1 + t) P.n)) (m - (i + 1)) []
def ovI (P : PcD) (m : Nat) : List (V × V) := foldTo (fun i l => l ++ ([pI P i] ++ ovJ P i P.n)) m []
def ovl (P : PcD) : List (V × V) := ovI P P.n

theorem ovK_succ (P : PcD) {i j k : Nat} (h : j + 1 ≤ k) : ovK P i j (k + 1) = ovK P i j k ++ [pK P i j k] := by
  unfold ovK
  rw [show k + 1 - (j + 1) = (k - (j + 1)) + 1 by omega]
  show foldTo _ (k - (j + 1)) [] ++ [pK P i j (j + 1 + (k - (j + 1)))] = _
  rw [show j + 1 + (k - (j + 1)) = k by omega]
theorem ovJ_succ (P : PcD) {i j : Nat} (h : i + 1 ≤ j) : ovJ P i (j + 1) = ovJ P i j ++ ([pJ1 P i j, pJ2 P i j] ++ ovK P i j P.n) := by
  unfold ovJ
  rw [show j + 1 - (i + 1) = (j - (i + 1)) + 1 by omega]
  show foldTo _ (j - (i + 1)) [] ++ ([pJ1 P i (i + 1 + (j - (i + 1))), pJ2 P i (i + 1 + (j - (i + 1)))] ++ ovK P i (i + 1 + (j - (i + 1))) P.n) = _
  rw [show i + 1 + (j - (i + 1)) = j by omega]
theorem ovI_succ (P : PcD) (i : Nat) : ovI P (i + 1) = ovI P i ++ ([pI P i] ++ ovJ P i P.n) := rfl

/-- pre is where the list begins -/
def Pre (pre l : List (V × V)) : Prop := ∃ s, l = pre ++ s
theorem Pre.refl (l : List (V × V)) : Pre l l := ⟨[], by simp⟩
theorem Pre.trans {a b c : List (V × V)} (h : Pre a b) (k : Pre b c) : Pre a c := by
  obtain ⟨s, rfl⟩ := h; obtain ⟨t, rfl⟩ := k; exact ⟨s ++ t, by simp⟩
theorem Pre.app {a b : List (V × V)} (c : List (V × V)) (h : Pre a b) : Pre (c ++ a) (c ++ b) := by
  obtain ⟨s, rfl⟩ := h; exact ⟨s, by simp⟩
theorem pre_ovK (P : PcD) {i j : Nat} : ∀ {k m : Nat}, k ≤ m → Pre (ovK P i j k) (ovK P i j m) := by
  intro k m h
  induction m with
  | zero => have : k = 0 := by omega
            subst this; exact Pre.refl _
  | succ m ih =>
    rcases Nat.lt_or_ge k (m + 1) with h1 | h1
    · rcases Nat.lt_or_ge m (j + 1) with h2 | h2
      · have e : ∀ q, q ≤ j + 1 → ovK P i j q = [] := fun q hq => by unfold ovK; rw [show q - (j + 1) = 0 by omega]; rfl
        rw [e k (by omega), e (m + 1) (by omega)]; exact Pre.refl _
      · rw [ovK_succ P h2]; exact (ih (by omega)).trans ⟨_, rfl⟩
    · have : k = m + 1 := by omega
      subst this; exact Pre.refl _
theorem pre_ovJ (P : PcD) {i : Nat} : ∀ {k m : Nat}, k ≤ m → Pre (ovJ P i k) (ovJ P i m) := by
  intro k m h
  induction m with
  | zero => have : k = 0 := by omega
            subst this; exact Pre.refl _
  | succ m ih =>
    rcases Nat.lt_or_ge k (m + 1) with h1 | h1
    · rcases Nat.lt_or_ge m (i + 1) with h2 | h2
      · have e : ∀ q, q ≤ i + 1 → ovJ P i q = [] := fun q hq => by unfold ovJ; rw [show q - (i + 1) = 0 by omega]; rfl
        rw [e k (by omega), e (m + 1) (by omega)]; exact Pre.refl _
      · rw [ovJ_succ P h2]; exact (ih (by omega)).trans ⟨_, rfl⟩
    · have : k = m + 1 := by omega
      subst this; exact Pre.refl _
theorem pre_ovI (P : PcD) : ∀ {k m : Nat}, k ≤ m → Pre (ovI P k) (ovI P m) := by
  intro k m h
  induction m with
  | zero => have : k = 0 := by omega
            subst this; exact Pre.refl _
  | succ m ih =>
    rcases Nat.lt_or_ge k (m + 1) with h1 | h1
    · rw [ovI_succ]; exact (ih (by omega)).trans ⟨_, rfl⟩
    · have : k = m + 1 := by omega
      subst this; exact Pre.refl _

/-- the places within the list -/
theorem pre_I (P : PcD) {i : Nat} (hi : i < P.n) : Pre (ovI P i ++ [pI P i]) (ovl P) := by
  refine Pre.trans (b := ovI P (i + 1)) ?_ (pre_ovI P (by omega))
  rw [ovI_succ]
  exact Pre.app _ ⟨_, rfl⟩
theorem pre_J (P : PcD) {i j : Nat} (hi : i < P.n) (hj : j ≤ P.n) : Pre (ovI P i ++ ([pI P i] ++ ovJ P i j)) (ovl P) := by
  refine Pre.trans (b := ovI P (i + 1)) ?_ (pre_ovI P (by omega))
  rw [ovI_succ]
  exact Pre.app _ (Pre.app _ (pre_ovJ P hj))
theorem pre_J' (P : PcD) {i j : Nat} {x : List (V × V)} (hi : i < P.n) (hij : i + 1 ≤ j) (hj : j < P.n) (hx : Pre x ([pJ1 P i j, pJ2 P i j] ++ ovK P i j P.n)) : Pre (ovI P i ++ ([pI P i] ++ (ovJ P i j ++ x))) (ovl P) := by
  refine Pre.trans ?_ (pre_J P hi (show j + 1 ≤ P.n by omega))
  rw [ovJ_succ P hij]
  exact Pre.app _ (Pre.app _ (Pre.app _ hx))
def eq12 (x y : V) : Bool := (List.range 12).all fun k => x.getD k 0 == y.getD k 0
def consB (P : PcD) : Bool := (ovl P).all fun p => eq12 p.1 p.2
end Go.Proofs.Pc
namespace Go.Proofs
open Go.RowKit Go.Proofs.Pc

/-- Go's Turn for a modulus that is small -/
theorem turn_any (w : World) (x n : Int) (h0 : 0 < n) (h1 : n ≤ 1000000) (_hx : -9223372036854775808 ≤ x ∧ x ≤ 9223372036854775807) :
    Calls Try.prog 46 #[.int .i64 x, .int .i64 n] w fun e w' => e = .returned (.int .i64 (x % n)) ∧ w = w' := by
  have hn : (n == 0) = false := by simp; omega
  have h3 : x.tmod n < n := Int.tmod_lt_of_pos _ h0
  have h4 : -n < x.tmod n := by
    have := Int.lt_tmod_of_pos x h0
    omega
  have h5 : (x.tmod n + n) % n = x % n := by
    rw [Int.add_emod_right]
    rcases Int.le_total 0 x with h | h
    · rw [Int.tmod_eq_emod_of_nonneg h, Int.emod_emod]
    · rw [Int.tmod_eq_emod]
      split
      · simp
      · rw [Int.sub_emod]
        simp
        rw [show (n.natAbs : Int) = n by omega]
        simp
  have H5 := Lib.hid h5
  clear h5
  have hw1 : IntKind.i64.wrap (x.tmod n + n) = x.tmod n + n := IntWalk.i64_in _ (by omega)
  go_enter Try.func46, Try.ntmps46
  go_wp2_with fail
  go_ret
  exact ⟨ret_int H5.out, rfl⟩

def AllI (W : World) : List Value → List (List Int) → Prop
  | [], [] => True
  | v :: vs, x :: xs => IntsAt W v x ∧ AllI W vs xs
  | _, _ => False
def AllT (W : World) : List Value → List (List (List Int)) → Prop
  | [], [] => True
  | v :: vs, x :: xs => Tab W v x ∧ AllT W vs xs
  | _, _ => False
theorem AllI.len {W : World} : ∀ {vs : List Value} {xs : List (List Int)}, AllI W vs xs → vs.length = xs.length
  | [], [], _ => rfl
  | _ :: vs, _ :: xs, h => by simp [AllI.len h.2]
  | [], _ :: _, h => h.elim
  | _ :: _, [], h => h.elim
theorem AllI.get {W : World} : ∀ {vs : List Value} {xs : List (List Int)}, AllI W vs xs → ∀ i, i < xs.length → ∃ u, vs[i]? = some u ∧ IntsAt W u (xs.getD i [])
  | _ :: vs, _ :: xs, h, 0, _ => ⟨_, rfl, h.1⟩
  | _ :: vs, _ :: xs, h, i + 1, hi => by
    obtain ⟨u, h1, h2⟩ := AllI.get h.2 i (by simpa using hi)
    exact ⟨u, by simpa using h1, by simpa using h2⟩
  | [], _ :: _, h, _, _ => h.elim
theorem AllT.len {W : World} : ∀ {vs : List Value} {xs : List (List (List Int))}, AllT W vs xs → vs.length = xs.length
  | [], [], _ => rfl
  | _ :: vs, _ :: xs, h => by simp [AllT.len h.2]
  | [], _ :: _, h => h.elim
  | _ :: _, [], h => h.elim
theorem AllT.get {W : World} : ∀ {vs : List Value} {xs : List (List (List Int))}, AllT W vs xs → ∀ i, i < xs.length → ∃ u, vs[i]? = some u ∧ Tab W u (xs.getD i [])
  | _ :: vs, _ :: xs, h, 0, _ => ⟨_, rfl, h.1⟩
  | _ :: vs, _ :: xs, h, i + 1, hi => by
    obtain ⟨u, h1, h2⟩ := AllT.get h.2 i (by simpa using hi)
    exact ⟨u, by simpa using h1, by simpa using h2⟩
  | [], _ :: _, h, _, _ => h.elim

def fitsB (xs : List Int) : Bool := xs.all fun x => decide (-9223372036854775808 ≤ x ∧ x ≤ 9223372036854775807)
theorem fits_of {xs : List Int} (h : fitsB xs = true) : Fits xs := fun x hx => by
  have := List.all_eq_true.1 h x hx
  simpa using this
theorem sl_lit {W : World} {b n : Nat} {vs : List Value} {E : TypeId} (h : W.heap[b]? = some (.cells vs.toArray E (0, 0))) (hn : vs.length = n) (hl : n ≤ 1000) : Sl W (.slice (some ⟨b, 0, none⟩) n n) vs :=
  ⟨_, n, n, rfl, hn.symm, Nat.le_refl _, by unfold maxLen; omega, fun _ => ⟨b, 0, rfl, fun j v hv => by rw [cell_of_row _ _ _ _ _ _ h, Nat.zero_add]; simpa using hv⟩⟩
theorem ints_lit {W : World} {b n : Nat} (xs : List Int) {E : TypeId} (h : W.heap[b]? = some (.cells (xs.map (Value.int .i64)).toArray E (0, 0))) (hn : xs.length = n) (hl : n ≤ 1000) (hf : fitsB xs = true) : IntsAt W (.slice (some ⟨b, 0, none⟩) n n) xs :=
  ⟨sl_lit (vs := ints xs) h (by simpa [ints] using hn) hl, fits_of hf⟩
theorem tab_lit {W : World} {b n : Nat} {vs : List Value} {L : List (List Int)} {E : TypeId} (h : W.heap[b]? = some (.cells vs.toArray E (0, 0))) (hn : vs.length = n) (hl : n ≤ 1000) (ha : AllI W vs L) : Tab W (.slice (some ⟨b, 0, none⟩) n n) L :=
  ⟨vs, sl_lit h hn hl, ha.len, ha.get⟩
theorem tab3_lit {W : World} {b n : Nat} {vs : List Value} {L : List (List (List Int))} {E : TypeId} (h : W.heap[b]? = some (.cells vs.toArray E (0, 0))) (hn : vs.length = n) (hl : n ≤ 1000) (ha : AllT W vs L) : Tab3 W (.slice (some ⟨b, 0, none⟩) n n) L :=
  ⟨vs, sl_lit h hn hl, ha.len, ha.get⟩

def knownD : Nat → PcD
  | 0 => { orders := [2, 2, 2], powers := [[0, 0, 1], [0, 0, 1], [0, 0, 0]], conj := [[], [[0, 1, 1]], [[0, 0, 1], [0, 0, 1]]] }
  | 1 => { orders := [2, 3], powers := [[0, 0], [0, 0]], conj := [[], [[0, 2]]] }
  | 2 => { orders := [3, 2], powers := [[0, 1], [0, 0]], conj := [[], [[0, 1]]] }
  | 3 => { orders := [2, 2, 2], powers := [[0, 0, 0], [0, 0, 1], [0, 0, 0]], conj := [[], [[0, 1, 1]], [[0, 0, 1], [0, 0, 1]]] }
  | 4 => { orders := [3, 3, 3], powers := [[0, 0, 0], [0, 0, 0], [0, 0, 0]], conj := [[], [[0, 1, 1]], [[0, 0, 1], [0, 0, 1]]] }
  | 5 => { orders := [3, 2, 2], powers := [[0, 0, 0], [0, 0, 0], [0, 0, 0]], conj := [[], [[0, 0, 1]], [[0, 1, 1], [0, 0, 1]]] }
  | 6 => { orders := [4, 5], powers := [[0, 0], [0, 0]], conj := [[], [[0, 2]]] }
  | 7 => { orders := [2, 2, 2], powers := [[0, 1, 0], [0, 0, 1], [0, 0, 0]], conj := [[], [[0, 1, 0]], [[0, 0, 1], [0, 0, 1]]] }
  | 8 => { orders := [2, 3, 2, 2], powers := [[0, 0, 0, 0], [0, 0, 0, 0], [0, 0, 0, 0], [0, 0, 0, 0]], conj := [[], [[0, 2, 0, 0]], [[0, 0, 0, 1], [0, 0, 0, 1]], [[0, 0, 1, 0], [0, 0, 1, 1], [0, 0, 0, 1]]] }
  | 9 => { orders := [3, 7], powers := [[0, 0], [0, 0]], conj := [[], [[0, 2]]] }
  | 10 => { orders := [], powers := [], conj := [] }
  | _ => { orders := [25], powers := [[0]], conj := [[]] }

def allocs : World → List Obj → World
  | w, [] => w
  | w, o :: os => allocs (w.alloc o) os
theorem allocs_below : ∀ (os : List Obj) (w : World) (n : Nat), n ≤ w.heap.size → Below n w (allocs w os)
  | [], _, _, _ => Below.refl _ _
  | o :: os, w, n, h => ((Below.refl n w).alloc h o).trans (allocs_below os (w.alloc o) n (by simp; omega))
theorem allocs_get : ∀ (os : List Obj) (w : World) (i : Nat) (o : Obj), os[i]? = some o → (allocs w os).heap[w.heap.size + i]? = some o
  | [], _, _, _, h => by simp at h
  | o :: os, w, 0, o', h => by
    have e : o = o' := by simpa using h
    subst e
    have hb := allocs_below os (w.alloc o) (w.heap.size + 1) (by simp)
    exact (hb.block w.heap.size (by omega)).trans (heap_alloc_new w o)
  | o :: os, w, i + 1, o', h => by
    have := allocs_get os (w.alloc o) i o' (by simpa using h)
    rw [World.size_alloc] at this
    rw [show w.heap.size + (i + 1) = w.heap.size + 1 + i by omega]
    exact this

def KnownPost (w : World) (P : PcD) (e : Ending) (w' : World) : Prop := (∃ u0 u1 u2, e = .returned (.agg #[u0, u1, u2]) ∧ PcAt w' u0 u1 u2 P) ∧ Below w.heap.size w w'
theorem ret28 (w : World) (os : List Obj) (a : Act) (v0 v1 v2 : Value) (P : PcD) (hp : a.tmps.getD 2 undef = .pointer (some ⟨w.heap.size, 0, none⟩)) (hd : a.defers = []) (ho : os[0]? = some (.cells #[v0, v1, v2] 26 (0, 0)))
    (hP : (∀ i o, os[i]? = some o → (allocs w os).heap[w.heap.size + i]? = some o) → PcAt (allocs w os) v0 v1 v2 P) : bodyPost Try.prog Try.f28 (KnownPost w P) Exit.ret a (allocs w os) :=
  bodyPost_ret (results_cell_row (P := Try.prog) (p := 2) rfl _ _ w.heap.size 26 #[v0, v1, v2] (0, 0) _ hp (allocs_get os w 0 _ ho) Try.underlying26 rfl (by kernel_rfl)) hd ⟨⟨_, _, _, rfl, hP (allocs_get os w)⟩, allocs_below _ _ _ (Nat.le_refl _)⟩

set_option maxRecDepth 100000 in
set_option maxHeartbeats 1000000 in
theorem known_0 (w : World) (x : Int) (hx : -9223372036854775808 ≤ x ∧ x ≤ 9223372036854775807) (ht : x % 12 = 0) : Calls Try.prog 28 #[.int .i64 x] w (KnownPost w (knownD 0)) := by
  have HT := Lib.hid ht
  clear ht
  go_enter Try.func28, Try.ntmps28
  go_wp2_with (go_at_call 46; (refine (turn_any _ x 12 (by omega) (by omega) hx).mono ?_); rintro e w' ⟨rfl, rfl⟩; rw [HT.out])
  refine ret28 w [_, _, _, _, _, _, _, _, _, _, _, _, _] _ _ _ _ _ rfl rfl rfl (fun lk => ?_)
  exact ⟨ints_lit _ (lk 1 _ rfl) rfl (by decide) rfl, tab_lit (lk 5 _ rfl) rfl (by decide) ⟨ints_lit _ (lk 2 _ rfl) rfl (by decide) rfl, ints_lit _ (lk 3 _ rfl) rfl (by decide) rfl, ints_lit _ (lk 4 _ rfl) rfl (by decide) rfl, trivial⟩, tab3_lit (lk 12 _ rfl) rfl (by decide) ⟨tab_lit (vs := []) (lk 6 _ rfl) rfl (by decide) trivial, tab_lit (lk 8 _ rfl) rfl (by decide) ⟨ints_lit _ (lk 7 _ rfl) rfl (by decide) rfl, trivial⟩, tab_lit (lk 11 _ rfl) rfl (by decide) ⟨ints_lit _ (lk 9 _ rfl) rfl (by decide) rfl, ints_lit _ (lk 10 _ rfl) rfl (by decide) rfl, trivial⟩, trivial⟩⟩
end Go.Proofs
namespace Go.Proofs
open Go.RowKit Go.Proofs.Pc

set_option maxHeartbeats 400000 in
theorem by_of_times {P : PcD} (hv : Valid P) {d : Nat} (HT : TimesOk P d) : ByOk P d := by
  intro w bc br x y hc hr hne hx hy
  have hn12 := hv.n12
  have HT' := Lib.hid HT
  have HY := Lib.hid hy
  clear HT hy
  have hcp := hc.ptr
  have hrn := hr.n
  have hbc := hc.lt
  have hbr := hr.lt
  have HC := Lib.hid hc
  have HR := Lib.hid hr
  clear hc hr
  go_enter Try.func80, Try.ntmps80
  go_wp2_with fail
  go_loopw [4, 12] (fun s4 i wr => ∃ k : Nat, k ≤ P.n ∧ i = .int .i64 k ∧ CollAt wr bc br (foldTo (fun k x => iter (timesF P d k) (y.getD k 0).toNat x) k x) ∧ (w.alloc (.cells (vec y).toArray 82)).grownBy wr (some bc)) (fun _ i _ => P.n - (intOf i).toNat)
  case atStart => exact ⟨0, Nat.zero_le _, rfl, HC.out.below ((Below.refl _ _).alloc (Nat.le_refl _) _), World.grownBy.refl _ _⟩
  case round =>
    obtain ⟨k, hk, rfl, hcr, hgr⟩ := hrel
    have hgw : w.grownBy wr (some bc) := only_trans (World.grownBy_alloc w _ _) hgr
    have hrr := HR.out.grown hgw (by simp; omega)
    have hcx : CollAt wr bc br (foldTo (fun k x => iter (timesF P d k) (y.getD k 0).toNat x) k x) := hcr
    by_cases hlt : k < P.n
    · have hyk := HY.out k hlt
      have hcy : wr.cell? ⟨w.heap.size, k, none⟩ = some (.int .i64 (y.getD k 0)) := by
        rw [World.cell?_of_block (w := w.alloc (.cells (vec y).toArray 82)) (hgr.block w.heap.size (by simp) (by simp; omega)), cell_of_row _ _ _ _ _ _ (heap_alloc_new w _)]
        simpa using getElem?_vec y (k := k) (by omega)
      have hnx : NV P (foldTo (fun k x => iter (timesF P d k) (y.getD k 0).toNat x) k x) := foldTo_inv k (fun j z hj hz => iter_inv (fun z hz => timesF_NV hv d j z (by omega) hz) _ _ hz) x hx
      generalize hm : y.getD k 0 = m at *
      obtain ⟨m', rfl⟩ := Int.eq_ofNat_of_zero_le hyk.1
      have HM := Lib.hid hm
      have hd : m' ≠ 0 → P.n ≤ k + d := fun h => hyk.2.2 (by omega)
      have hm1 : m' ≤ 1000 := by omega
      generalize hxk : foldTo (fun k x => iter (timesF P d k) (y.getD k 0).toNat x) k x = xk at *
      have HK := Lib.hid hxk
      clear hcr hm hyk hxk
      have HX := Lib.hid hnx
      clear hnx
      go_wp2_with fail
      obtain ⟨wo, rfl⟩ : ∃ wo, wo = wr := ⟨_, rfl⟩
      go_loopw [18] (fun i wr => ∃ j : Nat, j ≤ m' ∧ i = .int .i64 j ∧ CollAt wr bc br (iter (timesF P d k) j xk) ∧ wo.grownBy wr (some bc)) (fun i _ => m' - (intOf i).toNat)
      case atStart => exact ⟨0, Nat.zero_le _, rfl, hcx, World.grownBy.refl _ _⟩
      case round =>
        obtain ⟨j, hj, rfl, hcj, hgj⟩ := hrel
        have hnj := iter_inv (p := NV P) (f := timesF P d k) (fun z hz => timesF_NV hv d k z hlt hz) j xk HX.out
        have HN := Lib.hid hnj
        clear hnj
        by_cases hjl : j < m'
        · go_wp2_with (go_at_call 79; refine (HT'.out _ bc br (iter (timesF P d k) j xk) k hcj (hrr.grown hgj (by simp; omega)) hne HN.out hlt (hd (by omega))).mono ?_; rintro e w2 ⟨rfl, hc2, hg2⟩)
          go_roundw
          case rel => exact ⟨j + 1, by omega, by go_num, hc2, only_trans hgj hg2⟩
          case measure => simp [intOf]; omega
        · have hjm : j = m' := by omega
          subst hjm
          go_wp2_with fail
          go_roundw
          case rel => exact ⟨k + 1, by omega, by go_num, by (show CollAt _ _ _ (iter (timesF P d k) (y.getD k 0).toNat (foldTo (fun k x => iter (timesF P d k) (y.getD k 0).toNat x) k x)); rw [HM.out, HK.out]; exact hcj), only_trans hgr hgj⟩
          case measure => simp [intOf]; omega
    · have hkn : k = P.n := by omega
      subst hkn
      go_wp2_with fail
      go_end0
      exact ⟨rfl, hcx, hgw⟩
end Go.Proofs
namespace Go.Proofs
open Go.RowKit Go.Proofs.Pc

theorem vec_congr {x y : List Int} (h : ∀ k, k < 12 → x.getD k 0 = y.getD k 0) : vec x = vec y := by
  unfold vec
  exact List.map_congr_left fun k hk => by rw [h k (by simpa using hk)]

theorem CollAt.setv {w : World} {bc br : Nat} {x y : List Int} {i : Nat} {v : Int} (h : CollAt w bc br x) (hi : i < 12) (hy : ∀ k, k < 12 → y.getD k 0 = if k = i then v else x.getD k 0) : CollAt (w.setCell ⟨bc, 1 + i, none⟩ (.int .i64 v)) bc br y := by
  have h' : w.heap[bc]? = some (.cells (Value.pointer (some ⟨br, 0, none⟩) :: vec x).toArray 113 (0, 0)) := h
  have hv : (vec x).set i (.int .i64 v) = vec y := by
    apply List.ext_getElem?
    intro k
    rw [List.getElem?_set]
    rcases Nat.lt_or_ge k 12 with hk | hk
    · rw [getElem?_vec _ hk, getElem?_vec _ hk, hy k hk]
      by_cases e : i = k
      · subst e; simp [length_vec, hk]
      · simp [e, Ne.symm e]
    · rw [List.getElem?_eq_none (by rw [length_vec]; exact hk), List.getElem?_eq_none (by rw [length_vec]; exact hk)]
      have : i ≠ k := by omega
      simp [this]
  unfold CollAt
  rw [← hv]
  simp [World.setCell, Array.getElem?_modify, h', Nat.add_comm 1 i]

theorem CollAt.zeros {bc br : Nat} : ∀ (m o : Nat) (w : World) (x y : List Int), CollAt w bc br x → o + m ≤ 12 → (∀ k, k < 12 → y.getD k 0 = if o ≤ k ∧ k < o + m then 0 else x.getD k 0) →
    CollAt (w.setCells bc (1 + o) (List.replicate m (.int .i64 0))) bc br y
  | 0, o, w, x, y, h, _, hy => by
    have : vec y = vec x := vec_congr fun k hk => by rw [hy k hk, if_neg (by omega)]
    unfold CollAt at h ⊢
    rw [this]
    exact h
  | m + 1, o, w, x, y, h, ho, hy => by
    rw [List.replicate_succ, World.setCells]
    refine CollAt.zeros m (o + 1) _ ((List.range 12).map fun k => if k = o then 0 else x.getD k 0) y (h.setv (by omega) fun k hk => ?_) (by omega) fun k hk => ?_
    · simp [List.getD_eq_getElem?_getD, List.getElem?_range hk]
    · rw [hy k hk]
      have : ((List.range 12).map fun k => if k = o then 0 else x.getD k 0).getD k 0 = if k = o then 0 else x.getD k 0 := by simp [List.getD_eq_getElem?_getD, List.getElem?_range hk]
      rw [this]
      by_cases e : k = o
      · subst e; simp
      · simp only [e, if_false]
        by_cases h2 : o ≤ k ∧ k < o + (m + 1)
        · rw [if_pos h2, if_pos (by omega)]
        · rw [if_neg h2, if_neg (by omega)]

theorem grownBy_setCells (b : Nat) : ∀ (vs : List Value) (o : Nat) (w : World), w.grownBy (w.setCells b o vs) (some b)
  | [], _, w => World.grownBy.refl w _
  | v :: r, o, w => by
    rw [World.setCells]
    exact only_trans (only_setCell (World.grownBy.refl w _) (.inl rfl) v) (grownBy_setCells b r (o + 1) _)

def cleared (x : List Int) (i : Nat) : List Int := (List.range x.length).map fun k => if k ≤ i then x.getD k 0 else 0
theorem getD_cleared (x : List Int) (i k : Nat) : (cleared x i).getD k 0 = if k ≤ i then x.getD k 0 else 0 := by
  unfold cleared
  rcases Nat.lt_or_ge k x.length with hk | hk
  · simp [List.getD_eq_getElem?_getD, List.getElem?_range hk]
  · simp only [List.getD_eq_getElem?_getD]
    rw [List.getElem?_eq_none (by simpa using hk), List.getElem?_eq_none hk]
    simp

theorem run_sliceAt_vec (w : World) (b o k : Nat) (hk : k ≤ 12) : (Instr.sliceAt 82 (.pointer (some ⟨b, o, none⟩)) (some (.int .i64 (k : Int))) none none).run Try.prog w =
    .ok (.slice (some (if 12 = k then ⟨b, o, none⟩ else ⟨b, o + k, none⟩)) (12 - k) (12 - k)) w := by
  have hs : (Try.prog.info? 3).map (·.size) = some 1 := by kernel_rfl
  cases hq : Try.prog.info? 3 with
  | none => simp [hq] at hs
  | some inf =>
    have hsz : inf.size = 1 := by simpa [hq] using hs
    have h1 : (k : Int) ≤ 12 := by omega
    simp [Instr.sliceAt, run_underlying Try.underlying82, Instr.sureAddr, Instr.sliceBounds, Instr.sliceBound, asIntOf, sizeOf, typeInfo, hq, hsz, hk]
    by_cases h : 12 = k
    · simp [h]
    · simp only [h, if_false]
      rw [Addr.add_mid]

theorem zero3 (w : World) : (zeroValue 3).run Try.prog w = .ok (.int .i64 0) w := by kernel_rfl

/-- 'clear(c.x[i+1:])' -/
theorem slice_clear {w : World} {bc br : Nat} {x : List Int} {i : Nat} (hc : CollAt w bc br x) (hi : i < 12) :
    ∃ sv w2, (∀ w', (Instr.sliceAt 82 (.pointer (some ⟨bc, 1, none⟩)) (some (.int .i64 ((i : Int) + 1))) none none).run Try.prog w' = .ok sv w') ∧
      (∀ ty, (Builtin.clear_ #[22] ty #[sv]).run Try.prog w = .ok (.tuple #[]) w2) ∧ CollAt w2 bc br (cleared x i) ∧ w.grownBy w2 (some bc) := by
  refine ⟨.slice (some (if 12 = i + 1 then ⟨bc, 1, none⟩ else ⟨bc, 1 + (i + 1), none⟩)) (12 - (i + 1)) (12 - (i + 1)), w.setCells bc (1 + (i + 1)) (List.replicate (12 - (i + 1)) (.int .i64 0)), fun w' => ?_, fun ty => ?_, ?_, grownBy_setCells _ _ _ _⟩
  · exact run_sliceAt_vec w' bc 1 (i + 1) (by omega)
  · by_cases h : 12 = i + 1
    · have h0 : 12 - (i + 1) = 0 := by omega
      rw [if_pos h, h0]
      simp [Builtin.clear_, run_underlying Try.underlying22, World.setCells]
    · rw [if_neg h]
      exact Lib.run_clear_slice w 22 3 ty (.int .i64 0) Try.underlying22 zero3 rfl rfl bc (1 + (i + 1)) _ _ (by omega) (fun j hj => by rw [show 1 + (i + 1) + j = 1 + (i + 1 + j) by omega, hc.cell (by omega)]; rfl) (fun j hj => hc.frozen _)
  · refine CollAt.zeros _ _ _ x _ hc (by omega) fun k hk => ?_
    rw [getD_cleared]
    by_cases h : k ≤ i
    · rw [if_pos h, if_neg (by omega)]
    · rw [if_neg h, if_pos (by omega)]
end Go.Proofs
