/- The contract of cayleykit.KnownPc. -/
import Derived.Test.YtnhoiompdjabbaaChk4
namespace Go.Proofs
open Go.RowKit Go.Proofs.Pc

/-- Go's Turn for a modulus that is small -/
theorem turn_any (w : World) (x n : Int) (h0 : 0 < n) (h1 : n ≤ 1000000) (_hx : -9223372036854775808 ≤ x ∧ x ≤ 9223372036854775807) :
    Calls Try.prog 46 #[.int .i64 x, .int .i64 n] w fun e w' => e = .returned (.int .i64 (x % n)) ∧ w = w' := by
  have hn : (n == 0) = false := by simp; omega
  have h3 : x.tmod n < n := Int.tmod_lt_of_pos _ h0
  have h4 : -n < x.tmod n := by
    have := Int.lt_tmod_of_pos x h0
    omega
  have h5 : (x.tmod n + n) % n = x % n := by
    rw [Int.add_emod_right]
    rcases Int.le_total 0 x with h | h
    · rw [Int.tmod_eq_emod_of_nonneg h, Int.emod_emod]
    · rw [Int.tmod_eq_emod]
      split
      · simp
      · rw [Int.sub_emod]
        simp
        rw [show (n.natAbs : Int) = n by omega]
        simp
  have H5 := Lib.hid h5
  clear h5
  have hw1 : IntKind.i64.wrap (x.tmod n + n) = x.tmod n + n := IntWalk.i64_in _ (by omega)
  go_enter Try.func46, Try.ntmps46
  go_wp2_with fail
  go_ret
  exact ⟨ret_int H5.out, rfl⟩

def AllI (W : World) : List Value → List (List Int) → Prop
  | [], [] => True
  | v :: vs, x :: xs => IntsAt W v x ∧ AllI W vs xs
  | _, _ => False
def AllT (W : World) : List Value → List (List (List Int)) → Prop
  | [], [] => True
  | v :: vs, x :: xs => Tab W v x ∧ AllT W vs xs
  | _, _ => False
theorem AllI.len {W : World} : ∀ {vs : List Value} {xs : List (List Int)}, AllI W vs xs → vs.length = xs.length
  | [], [], _ => rfl
  | _ :: vs, _ :: xs, h => by simp [AllI.len h.2]
  | [], _ :: _, h => h.elim
  | _ :: _, [], h => h.elim
theorem AllI.get {W : World} : ∀ {vs : List Value} {xs : List (List Int)}, AllI W vs xs → ∀ i, i < xs.length → ∃ u, vs[i]? = some u ∧ IntsAt W u (xs.getD i [])
  | _ :: vs, _ :: xs, h, 0, _ => ⟨_, rfl, h.1⟩
  | _ :: vs, _ :: xs, h, i + 1, hi => by
    obtain ⟨u, h1, h2⟩ := AllI.get h.2 i (by simpa using hi)
    exact ⟨u, by simpa using h1, by simpa using h2⟩
  | [], _ :: _, h, _, _ => h.elim
theorem AllT.len {W : World} : ∀ {vs : List Value} {xs : List (List (List Int))}, AllT W vs xs → vs.length = xs.length
  | [], [], _ => rfl
  | _ :: vs, _ :: xs, h => by simp [AllT.len h.2]
  | [], _ :: _, h => h.elim
  | _ :: _, [], h => h.elim
theorem AllT.get {W : World} : ∀ {vs : List Value} {xs : List (List (List Int))}, AllT W vs xs → ∀ i, i < xs.length → ∃ u, vs[i]? = some u ∧ Tab W u (xs.getD i [])
  | _ :: vs, _ :: xs, h, 0, _ => ⟨_, rfl, h.1⟩
  | _ :: vs, _ :: xs, h, i + 1, hi => by
    obtain ⟨u, h1, h2⟩ := AllT.get h.2 i (by simpa using hi)
    exact ⟨u, by simpa using h1, by simpa using h2⟩
  | [], _ :: _, h, _, _ => h.elim

def fitsB (xs : List Int) : Bool := xs.all fun x => decide (-9223372036854775808 ≤ x ∧ x ≤ 9223372036854775807)
theorem fits_of {xs : List Int} (h : fitsB xs = true) : Fits xs := fun x hx => by
  have := List.all_eq_true.1 h x hx
  simpa using this
theorem sl_lit {W : World} {b n : Nat} {vs : List Value} {E : TypeId} (h : W.heap[b]? = some (.cells vs.toArray E (0, 0))) (hn : vs.length = n) (hl : n ≤ 1000) : Sl W (.slice (some ⟨b, 0, none⟩) n n) vs :=
  ⟨_, n, n, rfl, hn.symm, Nat.le_refl _, by unfold maxLen; omega, fun _ => ⟨b, 0, rfl, fun j v hv => by rw [cell_of_row _ _ _ _ _ _ h, Nat.zero_add]; simpa using hv⟩⟩
theorem ints_lit {W : World} {b n : Nat} (xs : List Int) {E : TypeId} (h : W.heap[b]? = some (.cells (xs.map (Value.int .i64)).toArray E (0, 0))) (hn : xs.length = n) (hl : n ≤ 1000) (hf : fitsB xs = true) : IntsAt W (.slice (some ⟨b, 0, none⟩) n n) xs :=
  ⟨sl_lit (vs := ints xs) h (by simpa [ints] using hn) hl, fits_of hf⟩
theorem tab_lit {W : World} {b n : Nat} {vs : List Value} {L : List (List Int)} {E : TypeId} (h : W.heap[b]? = some (.cells vs.toArray E (0, 0))) (hn : vs.length = n) (hl : n ≤ 1000) (ha : AllI W vs L) : Tab W (.slice (some ⟨b, 0, none⟩) n n) L :=
  ⟨vs, sl_lit h hn hl, ha.len, ha.get⟩
theorem tab3_lit {W : World} {b n : Nat} {vs : List Value} {L : List (List (List Int))} {E : TypeId} (h : W.heap[b]? = some (.cells vs.toArray E (0, 0))) (hn : vs.length = n) (hl : n ≤ 1000) (ha : AllT W vs L) : Tab3 W (.slice (some ⟨b, 0, none⟩) n n) L :=
  ⟨vs, sl_lit h hn hl, ha.len, ha.get⟩

def knownD : Nat → PcD
  | 0 => { orders := [2, 2, 2], powers := [[0, 0, 1], [0, 0, 1], [0, 0, 0]], conj := [[], [[0, 1, 1]], [[0, 0, 1], [0, 0, 1]]] }
  | 1 => { orders := [2, 3], powers := [[0, 0], [0, 0]], conj := [[], [[0, 2]]] }
  | 2 => { orders := [3, 2], powers := [[0, 1], [0, 0]], conj := [[], [[0, 1]]] }
  | 3 => { orders := [2, 2, 2], powers := [[0, 0, 0], [0, 0, 1], [0, 0, 0]], conj := [[], [[0, 1, 1]], [[0, 0, 1], [0, 0, 1]]] }
  | 4 => { orders := [3, 3, 3], powers := [[0, 0, 0], [0, 0, 0], [0, 0, 0]], conj := [[], [[0, 1, 1]], [[0, 0, 1], [0, 0, 1]]] }
  | 5 => { orders := [3, 2, 2], powers := [[0, 0, 0], [0, 0, 0], [0, 0, 0]], conj := [[], [[0, 0, 1]], [[0, 1, 1], [0, 0, 1]]] }
  | 6 => { orders := [4, 5], powers := [[0, 0], [0, 0]], conj := [[], [[0, 2]]] }
  | 7 => { orders := [2, 2, 2], powers := [[0, 1, 0], [0, 0, 1], [0, 0, 0]], conj := [[], [[0, 1, 0]], [[0, 0, 1], [0, 0, 1]]] }
  | 8 => { orders := [2, 3, 2, 2], powers := [[0, 0, 0, 0], [0, 0, 0, 0], [0, 0, 0, 0], [0, 0, 0, 0]], conj := [[], [[0, 2, 0, 0]], [[0, 0, 0, 1], [0, 0, 0, 1]], [[0, 0, 1, 0], [0, 0, 1, 1], [0, 0, 0, 1]]] }
  | 9 => { orders := [3, 7], powers := [[0, 0], [0, 0]], conj := [[], [[0, 2]]] }
  | 10 => { orders := [], powers := [], conj := [] }
  | _ => { orders := [25], powers := [[0]], conj := [[]] }

def allocs : World → List Obj → World
  | w, [] => w
  | w, o :: os => allocs (w.alloc o) os
theorem allocs_below : ∀ (os : List Obj) (w : World) (n : Nat), n ≤ w.heap.size → Below n w (allocs w os)
  | [], _, _, _ => Below.refl _ _
  | o :: os, w, n, h => ((Below.refl n w).alloc h o).trans (allocs_below os (w.alloc o) n (by simp; omega))
theorem allocs_get : ∀ (os : List Obj) (w : World) (i : Nat) (o : Obj), os[i]? = some o → (allocs w os).heap[w.heap.size + i]? = some o
  | [], _, _, _, h => by simp at h
  | o :: os, w, 0, o', h => by
    have e : o = o' := by simpa using h
    subst e
    have hb := allocs_below os (w.alloc o) (w.heap.size + 1) (by simp)
    exact (hb.block w.heap.size (by omega)).trans (heap_alloc_new w o)
  | o :: os, w, i + 1, o', h => by
    have := allocs_get os (w.alloc o) i o' (by simpa using h)
    rw [World.size_alloc] at this
    rw [show w.heap.size + (i + 1) = w.heap.size + 1 + i by omega]
    exact this

def KnownPost (w : World) (P : PcD) (e : Ending) (w' : World) : Prop := (∃ u0 u1 u2, e = .returned (.agg #[u0, u1, u2]) ∧ PcAt w' u0 u1 u2 P) ∧ Below w.heap.size w w'
theorem ret28 (w : World) (os : List Obj) (a : Act) (v0 v1 v2 : Value) (P : PcD) (hp : a.tmps.getD 2 undef = .pointer (some ⟨w.heap.size, 0, none⟩)) (hd : a.defers = []) (ho : os[0]? = some (.cells #[v0, v1, v2] 26 (0, 0)))
    (hP : (∀ i o, os[i]? = some o → (allocs w os).heap[w.heap.size + i]? = some o) → PcAt (allocs w os) v0 v1 v2 P) : bodyPost Try.prog Try.f28 (KnownPost w P) Exit.ret a (allocs w os) :=
  bodyPost_ret (results_cell_row (P := Try.prog) (p := 2) rfl _ _ w.heap.size 26 #[v0, v1, v2] (0, 0) _ hp (allocs_get os w 0 _ ho) Try.underlying26 rfl (by kernel_rfl)) hd ⟨⟨_, _, _, rfl, hP (allocs_get os w)⟩, allocs_below _ _ _ (Nat.le_refl _)⟩

set_option maxRecDepth 100000 in
set_option maxHeartbeats 1000000 in
theorem known_0 (w : World) (x : Int) (hx : -9223372036854775808 ≤ x ∧ x ≤ 9223372036854775807) (ht : x % 12 = 0) : Calls Try.prog 28 #[.int .i64 x] w (KnownPost w (knownD 0)) := by
  have HT := Lib.hid ht
  clear ht
  go_enter Try.func28, Try.ntmps28
  go_wp2_with (go_at_call 46; (refine (turn_any _ x 12 (by omega) (by omega) hx).mono ?_); rintro e w' ⟨rfl, rfl⟩; rw [HT.out])
  refine ret28 w [_, _, _, _, _, _, _, _, _, _, _, _, _] _ _ _ _ _ rfl rfl rfl (fun lk => ?_)
  exact ⟨ints_lit _ (lk 1 _ rfl) rfl (by decide) rfl, tab_lit (lk 5 _ rfl) rfl (by decide) ⟨ints_lit _ (lk 2 _ rfl) rfl (by decide) rfl, ints_lit _ (lk 3 _ rfl) rfl (by decide) rfl, ints_lit _ (lk 4 _ rfl) rfl (by decide) rfl, trivial⟩, tab3_lit (lk 12 _ rfl) rfl (by decide) ⟨tab_lit (vs := []) (lk 6 _ rfl) rfl (by decide) trivial, tab_lit (lk 8 _ rfl) rfl (by decide) ⟨ints_lit _ (lk 7 _ rfl) rfl (by decide) rfl, trivial⟩, tab_lit (lk 11 _ rfl) rfl (by decide) ⟨ints_lit _ (lk 9 _ rfl) rfl (by decide) rfl, ints_lit _ (lk 10 _ rfl) rfl (by decide) rfl, trivial⟩, trivial⟩⟩
end Go.Proofs
