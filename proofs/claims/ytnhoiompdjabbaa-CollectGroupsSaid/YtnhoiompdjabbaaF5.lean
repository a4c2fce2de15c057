/- KnownPc: what is read of it stands in its own blocks. -/
import Derived.Test.YtnhoiompdjabbaaB4
namespace Go.Proofs
open Go.RowKit Go.Proofs.Pc

def PcFar (base : Nat) (w : World) (u0 u1 u2 : Value) (P : PcD) : Prop := ∀ W : World, (∀ k, base ≤ k → k < w.heap.size → W.heap[k]? = w.heap[k]?) → PcAt W u0 u1 u2 P
def KnownFar (w : World) (P : PcD) (e : Ending) (w' : World) : Prop := (∃ u0 u1 u2, e = .returned (.agg #[u0, u1, u2]) ∧ PcFar w.heap.size w' u0 u1 u2 P) ∧ Below w.heap.size w w'
theorem ret28F (w : World) (os : List Obj) (a : Act) (v0 v1 v2 : Value) (P : PcD) (hp : a.tmps.getD 2 undef = .pointer (some ⟨w.heap.size, 0, none⟩)) (hd : a.defers = []) (ho : os[0]? = some (.cells #[v0, v1, v2] 26 (0, 0)))
    (hP : ∀ W : World, (∀ i o, os[i]? = some o → W.heap[w.heap.size + i]? = some o) → PcAt W v0 v1 v2 P) : bodyPost Try.prog Try.f28 (KnownFar w P) Exit.ret a (allocs w os) :=
  bodyPost_ret (results_cell_row (P := Try.prog) (p := 2) rfl _ _ w.heap.size 26 #[v0, v1, v2] (0, 0) _ hp (allocs_get os w 0 _ ho) Try.underlying26 rfl (by kernel_rfl)) hd ⟨⟨_, _, _, rfl, fun W hW => hP W fun i o hi => by
    have h := allocs_get os w i o hi
    exact (hW _ (Nat.le_add_right _ _) (Array.getElem?_eq_some_iff.1 h).1).trans h⟩, allocs_below _ _ _ (Nat.le_refl _)⟩

set_option maxRecDepth 100000 in
set_option maxHeartbeats 1000000 in
theorem knownF_0 (w : World) (x : Int) (hx : -9223372036854775808 ≤ x ∧ x ≤ 9223372036854775807) (ht : x % 12 = 0) : Calls Try.prog 28 #[.int .i64 x] w (KnownFar w (knownD 0)) := by
  have HT := Lib.hid ht
  clear ht
  go_enter Try.func28, Try.ntmps28
  go_wp2_with (go_at_call 46; (refine (turn_any _ x 12 (by omega) (by omega) hx).mono ?_); rintro e w' ⟨rfl, rfl⟩; rw [HT.out])
  refine ret28F w [_, _, _, _, _, _, _, _, _, _, _, _, _] _ _ _ _ _ rfl rfl rfl (fun _ lk => ?_)
  exact ⟨ints_lit _ (lk 1 _ rfl) rfl (by decide) rfl, tab_lit (lk 5 _ rfl) rfl (by decide) ⟨ints_lit _ (lk 2 _ rfl) rfl (by decide) rfl, ints_lit _ (lk 3 _ rfl) rfl (by decide) rfl, ints_lit _ (lk 4 _ rfl) rfl (by decide) rfl, trivial⟩, tab3_lit (lk 12 _ rfl) rfl (by decide) ⟨tab_lit (vs := []) (lk 6 _ rfl) rfl (by decide) trivial, tab_lit (lk 8 _ rfl) rfl (by decide) ⟨ints_lit _ (lk 7 _ rfl) rfl (by decide) rfl, trivial⟩, tab_lit (lk 11 _ rfl) rfl (by decide) ⟨ints_lit _ (lk 9 _ rfl) rfl (by decide) rfl, ints_lit _ (lk 10 _ rfl) rfl (by decide) rfl, trivial⟩, trivial⟩⟩

set_option maxRecDepth 100000 in
set_option maxHeartbeats 1000000 in
theorem knownF_1 (w : World) (x : Int) (hx : -9223372036854775808 ≤ x ∧ x ≤ 9223372036854775807) (ht : x % 12 = 1) : Calls Try.prog 28 #[.int .i64 x] w (KnownFar w (knownD 1)) := by
  have HT := Lib.hid ht
  clear ht
  go_enter Try.func28, Try.ntmps28
  go_wp2_with (go_at_call 46; (refine (turn_any _ x 12 (by omega) (by omega) hx).mono ?_); rintro e w' ⟨rfl, rfl⟩; rw [HT.out])
  refine ret28F w [_, _, _, _, _, _, _, _, _] _ _ _ _ _ rfl rfl rfl (fun _ lk => ?_)
  exact ⟨ints_lit _ (lk 1 _ rfl) rfl (by decide) rfl, tab_lit (lk 4 _ rfl) rfl (by decide) ⟨ints_lit _ (lk 2 _ rfl) rfl (by decide) rfl, ints_lit _ (lk 3 _ rfl) rfl (by decide) rfl, trivial⟩, tab3_lit (lk 8 _ rfl) rfl (by decide) ⟨tab_lit (vs := []) (lk 5 _ rfl) rfl (by decide) trivial, tab_lit (lk 7 _ rfl) rfl (by decide) ⟨ints_lit _ (lk 6 _ rfl) rfl (by decide) rfl, trivial⟩, trivial⟩⟩

set_option maxRecDepth 100000 in
set_option maxHeartbeats 1000000 in
theorem knownF_2 (w : World) (x : Int) (hx : -9223372036854775808 ≤ x ∧ x ≤ 9223372036854775807) (ht : x % 12 = 2) : Calls Try.prog 28 #[.int .i64 x] w (KnownFar w (knownD 2)) := by
  have HT := Lib.hid ht
  clear ht
  go_enter Try.func28, Try.ntmps28
  go_wp2_with (go_at_call 46; (refine (turn_any _ x 12 (by omega) (by omega) hx).mono ?_); rintro e w' ⟨rfl, rfl⟩; rw [HT.out])
  refine ret28F w [_, _, _, _, _, _, _, _, _] _ _ _ _ _ rfl rfl rfl (fun _ lk => ?_)
  exact ⟨ints_lit _ (lk 1 _ rfl) rfl (by decide) rfl, tab_lit (lk 4 _ rfl) rfl (by decide) ⟨ints_lit _ (lk 2 _ rfl) rfl (by decide) rfl, ints_lit _ (lk 3 _ rfl) rfl (by decide) rfl, trivial⟩, tab3_lit (lk 8 _ rfl) rfl (by decide) ⟨tab_lit (vs := []) (lk 5 _ rfl) rfl (by decide) trivial, tab_lit (lk 7 _ rfl) rfl (by decide) ⟨ints_lit _ (lk 6 _ rfl) rfl (by decide) rfl, trivial⟩, trivial⟩⟩

set_option maxRecDepth 100000 in
set_option maxHeartbeats 1000000 in
theorem knownF_3 (w : World) (x : Int) (hx : -9223372036854775808 ≤ x ∧ x ≤ 9223372036854775807) (ht : x % 12 = 3) : Calls Try.prog 28 #[.int .i64 x] w (KnownFar w (knownD 3)) := by
  have HT := Lib.hid ht
  clear ht
  go_enter Try.func28, Try.ntmps28
  go_wp2_with (go_at_call 46; (refine (turn_any _ x 12 (by omega) (by omega) hx).mono ?_); rintro e w' ⟨rfl, rfl⟩; rw [HT.out])
  refine ret28F w [_, _, _, _, _, _, _, _, _, _, _, _, _] _ _ _ _ _ rfl rfl rfl (fun _ lk => ?_)
  exact ⟨ints_lit _ (lk 1 _ rfl) rfl (by decide) rfl, tab_lit (lk 5 _ rfl) rfl (by decide) ⟨ints_lit _ (lk 2 _ rfl) rfl (by decide) rfl, ints_lit _ (lk 3 _ rfl) rfl (by decide) rfl, ints_lit _ (lk 4 _ rfl) rfl (by decide) rfl, trivial⟩, tab3_lit (lk 12 _ rfl) rfl (by decide) ⟨tab_lit (vs := []) (lk 6 _ rfl) rfl (by decide) trivial, tab_lit (lk 8 _ rfl) rfl (by decide) ⟨ints_lit _ (lk 7 _ rfl) rfl (by decide) rfl, trivial⟩, tab_lit (lk 11 _ rfl) rfl (by decide) ⟨ints_lit _ (lk 9 _ rfl) rfl (by decide) rfl, ints_lit _ (lk 10 _ rfl) rfl (by decide) rfl, trivial⟩, trivial⟩⟩

set_option maxRecDepth 100000 in
set_option maxHeartbeats 1000000 in
theorem knownF_4 (w : World) (x : Int) (hx : -9223372036854775808 ≤ x ∧ x ≤ 9223372036854775807) (ht : x % 12 = 4) : Calls Try.prog 28 #[.int .i64 x] w (KnownFar w (knownD 4)) := by
  have HT := Lib.hid ht
  clear ht
  go_enter Try.func28, Try.ntmps28
  go_wp2_with (go_at_call 46; (refine (turn_any _ x 12 (by omega) (by omega) hx).mono ?_); rintro e w' ⟨rfl, rfl⟩; rw [HT.out])
  refine ret28F w [_, _, _, _, _, _, _, _, _, _, _, _, _] _ _ _ _ _ rfl rfl rfl (fun _ lk => ?_)
  exact ⟨ints_lit _ (lk 1 _ rfl) rfl (by decide) rfl, tab_lit (lk 5 _ rfl) rfl (by decide) ⟨ints_lit _ (lk 2 _ rfl) rfl (by decide) rfl, ints_lit _ (lk 3 _ rfl) rfl (by decide) rfl, ints_lit _ (lk 4 _ rfl) rfl (by decide) rfl, trivial⟩, tab3_lit (lk 12 _ rfl) rfl (by decide) ⟨tab_lit (vs := []) (lk 6 _ rfl) rfl (by decide) trivial, tab_lit (lk 8 _ rfl) rfl (by decide) ⟨ints_lit _ (lk 7 _ rfl) rfl (by decide) rfl, trivial⟩, tab_lit (lk 11 _ rfl) rfl (by decide) ⟨ints_lit _ (lk 9 _ rfl) rfl (by decide) rfl, ints_lit _ (lk 10 _ rfl) rfl (by decide) rfl, trivial⟩, trivial⟩⟩

set_option maxRecDepth 100000 in
set_option maxHeartbeats 1000000 in
theorem knownF_5 (w : World) (x : Int) (hx : -9223372036854775808 ≤ x ∧ x ≤ 9223372036854775807) (ht : x % 12 = 5) : Calls Try.prog 28 #[.int .i64 x] w (KnownFar w (knownD 5)) := by
  have HT := Lib.hid ht
  clear ht
  go_enter Try.func28, Try.ntmps28
  go_wp2_with (go_at_call 46; (refine (turn_any _ x 12 (by omega) (by omega) hx).mono ?_); rintro e w' ⟨rfl, rfl⟩; rw [HT.out])
  refine ret28F w [_, _, _, _, _, _, _, _, _, _, _, _, _] _ _ _ _ _ rfl rfl rfl (fun _ lk => ?_)
  exact ⟨ints_lit _ (lk 1 _ rfl) rfl (by decide) rfl, tab_lit (lk 5 _ rfl) rfl (by decide) ⟨ints_lit _ (lk 2 _ rfl) rfl (by decide) rfl, ints_lit _ (lk 3 _ rfl) rfl (by decide) rfl, ints_lit _ (lk 4 _ rfl) rfl (by decide) rfl, trivial⟩, tab3_lit (lk 12 _ rfl) rfl (by decide) ⟨tab_lit (vs := []) (lk 6 _ rfl) rfl (by decide) trivial, tab_lit (lk 8 _ rfl) rfl (by decide) ⟨ints_lit _ (lk 7 _ rfl) rfl (by decide) rfl, trivial⟩, tab_lit (lk 11 _ rfl) rfl (by decide) ⟨ints_lit _ (lk 9 _ rfl) rfl (by decide) rfl, ints_lit _ (lk 10 _ rfl) rfl (by decide) rfl, trivial⟩, trivial⟩⟩

set_option maxRecDepth 100000 in
set_option maxHeartbeats 1000000 in
theorem knownF_6 (w : World) (x : Int) (hx : -9223372036854775808 ≤ x ∧ x ≤ 9223372036854775807) (ht : x % 12 = 6) : Calls Try.prog 28 #[.int .i64 x] w (KnownFar w (knownD 6)) := by
  have HT := Lib.hid ht
  clear ht
  go_enter Try.func28, Try.ntmps28
  go_wp2_with (go_at_call 46; (refine (turn_any _ x 12 (by omega) (by omega) hx).mono ?_); rintro e w' ⟨rfl, rfl⟩; rw [HT.out])
  refine ret28F w [_, _, _, _, _, _, _, _, _] _ _ _ _ _ rfl rfl rfl (fun _ lk => ?_)
  exact ⟨ints_lit _ (lk 1 _ rfl) rfl (by decide) rfl, tab_lit (lk 4 _ rfl) rfl (by decide) ⟨ints_lit _ (lk 2 _ rfl) rfl (by decide) rfl, ints_lit _ (lk 3 _ rfl) rfl (by decide) rfl, trivial⟩, tab3_lit (lk 8 _ rfl) rfl (by decide) ⟨tab_lit (vs := []) (lk 5 _ rfl) rfl (by decide) trivial, tab_lit (lk 7 _ rfl) rfl (by decide) ⟨ints_lit _ (lk 6 _ rfl) rfl (by decide) rfl, trivial⟩, trivial⟩⟩

set_option maxRecDepth 100000 in
set_option maxHeartbeats 1000000 in
theorem knownF_7 (w : World) (x : Int) (hx : -9223372036854775808 ≤ x ∧ x ≤ 9223372036854775807) (ht : x % 12 = 7) : Calls Try.prog 28 #[.int .i64 x] w (KnownFar w (knownD 7)) := by
  have HT := Lib.hid ht
  clear ht
  go_enter Try.func28, Try.ntmps28
  go_wp2_with (go_at_call 46; (refine (turn_any _ x 12 (by omega) (by omega) hx).mono ?_); rintro e w' ⟨rfl, rfl⟩; rw [HT.out])
  refine ret28F w [_, _, _, _, _, _, _, _, _, _, _, _, _] _ _ _ _ _ rfl rfl rfl (fun _ lk => ?_)
  exact ⟨ints_lit _ (lk 1 _ rfl) rfl (by decide) rfl, tab_lit (lk 5 _ rfl) rfl (by decide) ⟨ints_lit _ (lk 2 _ rfl) rfl (by decide) rfl, ints_lit _ (lk 3 _ rfl) rfl (by decide) rfl, ints_lit _ (lk 4 _ rfl) rfl (by decide) rfl, trivial⟩, tab3_lit (lk 12 _ rfl) rfl (by decide) ⟨tab_lit (vs := []) (lk 6 _ rfl) rfl (by decide) trivial, tab_lit (lk 8 _ rfl) rfl (by decide) ⟨ints_lit _ (lk 7 _ rfl) rfl (by decide) rfl, trivial⟩, tab_lit (lk 11 _ rfl) rfl (by decide) ⟨ints_lit _ (lk 9 _ rfl) rfl (by decide) rfl, ints_lit _ (lk 10 _ rfl) rfl (by decide) rfl, trivial⟩, trivial⟩⟩

set_option maxRecDepth 100000 in
set_option maxHeartbeats 1000000 in
theorem knownF_8 (w : World) (x : Int) (hx : -9223372036854775808 ≤ x ∧ x ≤ 9223372036854775807) (ht : x % 12 = 8) : Calls Try.prog 28 #[.int .i64 x] w (KnownFar w (knownD 8)) := by
  have HT := Lib.hid ht
  clear ht
  go_enter Try.func28, Try.ntmps28
  go_wp2_with (go_at_call 46; (refine (turn_any _ x 12 (by omega) (by omega) hx).mono ?_); rintro e w' ⟨rfl, rfl⟩; rw [HT.out])
  refine ret28F w [_, _, _, _, _, _, _, _, _, _, _, _, _, _, _, _, _, _] _ _ _ _ _ rfl rfl rfl (fun _ lk => ?_)
  exact ⟨ints_lit _ (lk 1 _ rfl) rfl (by decide) rfl, tab_lit (lk 6 _ rfl) rfl (by decide) ⟨ints_lit _ (lk 2 _ rfl) rfl (by decide) rfl, ints_lit _ (lk 3 _ rfl) rfl (by decide) rfl, ints_lit _ (lk 4 _ rfl) rfl (by decide) rfl, ints_lit _ (lk 5 _ rfl) rfl (by decide) rfl, trivial⟩, tab3_lit (lk 17 _ rfl) rfl (by decide) ⟨tab_lit (vs := []) (lk 7 _ rfl) rfl (by decide) trivial, tab_lit (lk 9 _ rfl) rfl (by decide) ⟨ints_lit _ (lk 8 _ rfl) rfl (by decide) rfl, trivial⟩, tab_lit (lk 12 _ rfl) rfl (by decide) ⟨ints_lit _ (lk 10 _ rfl) rfl (by decide) rfl, ints_lit _ (lk 11 _ rfl) rfl (by decide) rfl, trivial⟩, tab_lit (lk 16 _ rfl) rfl (by decide) ⟨ints_lit _ (lk 13 _ rfl) rfl (by decide) rfl, ints_lit _ (lk 14 _ rfl) rfl (by decide) rfl, ints_lit _ (lk 15 _ rfl) rfl (by decide) rfl, trivial⟩, trivial⟩⟩

set_option maxRecDepth 100000 in
set_option maxHeartbeats 1000000 in
theorem knownF_9 (w : World) (x : Int) (hx : -9223372036854775808 ≤ x ∧ x ≤ 9223372036854775807) (ht : x % 12 = 9) : Calls Try.prog 28 #[.int .i64 x] w (KnownFar w (knownD 9)) := by
  have HT := Lib.hid ht
  clear ht
  go_enter Try.func28, Try.ntmps28
  go_wp2_with (go_at_call 46; (refine (turn_any _ x 12 (by omega) (by omega) hx).mono ?_); rintro e w' ⟨rfl, rfl⟩; rw [HT.out])
  refine ret28F w [_, _, _, _, _, _, _, _, _] _ _ _ _ _ rfl rfl rfl (fun _ lk => ?_)
  exact ⟨ints_lit _ (lk 1 _ rfl) rfl (by decide) rfl, tab_lit (lk 4 _ rfl) rfl (by decide) ⟨ints_lit _ (lk 2 _ rfl) rfl (by decide) rfl, ints_lit _ (lk 3 _ rfl) rfl (by decide) rfl, trivial⟩, tab3_lit (lk 8 _ rfl) rfl (by decide) ⟨tab_lit (vs := []) (lk 5 _ rfl) rfl (by decide) trivial, tab_lit (lk 7 _ rfl) rfl (by decide) ⟨ints_lit _ (lk 6 _ rfl) rfl (by decide) rfl, trivial⟩, trivial⟩⟩

set_option maxRecDepth 100000 in
set_option maxHeartbeats 1000000 in
theorem knownF_10 (w : World) (x : Int) (hx : -9223372036854775808 ≤ x ∧ x ≤ 9223372036854775807) (ht : x % 12 = 10) : Calls Try.prog 28 #[.int .i64 x] w (KnownFar w (knownD 10)) := by
  have HT := Lib.hid ht
  clear ht
  go_enter Try.func28, Try.ntmps28
  go_wp2_with (go_at_call 46; (refine (turn_any _ x 12 (by omega) (by omega) hx).mono ?_); rintro e w' ⟨rfl, rfl⟩; rw [HT.out])
  refine ret28F w [_] _ _ _ _ _ rfl rfl rfl (fun _ lk => ?_)
  exact ⟨intsAt_nil', ⟨[], ⟨none, 0, 0, rfl, rfl, Nat.le_refl _, by simp, fun h => absurd h (by simp)⟩, rfl, fun i hi => absurd hi (by simp [knownD])⟩, ⟨[], ⟨none, 0, 0, rfl, rfl, Nat.le_refl _, by simp, fun h => absurd h (by simp)⟩, rfl, fun i hi => absurd hi (by simp [knownD])⟩⟩

set_option maxRecDepth 100000 in
set_option maxHeartbeats 1000000 in
theorem knownF_11 (w : World) (x : Int) (hx : -9223372036854775808 ≤ x ∧ x ≤ 9223372036854775807) (ht : x % 12 = 11) : Calls Try.prog 28 #[.int .i64 x] w (KnownFar w (knownD 11)) := by
  have HT := Lib.hid ht
  clear ht
  go_enter Try.func28, Try.ntmps28
  go_wp2_with (go_at_call 46; (refine (turn_any _ x 12 (by omega) (by omega) hx).mono ?_); rintro e w' ⟨rfl, rfl⟩; rw [HT.out])
  refine ret28F w [_, _, _, _, _, _] _ _ _ _ _ rfl rfl rfl (fun _ lk => ?_)
  exact ⟨ints_lit _ (lk 1 _ rfl) rfl (by decide) rfl, tab_lit (lk 3 _ rfl) rfl (by decide) ⟨ints_lit _ (lk 2 _ rfl) rfl (by decide) rfl, trivial⟩, tab3_lit (lk 5 _ rfl) rfl (by decide) ⟨tab_lit (vs := []) (lk 4 _ rfl) rfl (by decide) trivial, trivial⟩⟩

theorem knownF_any (w : World) (x : Int) (hx : -9223372036854775808 ≤ x ∧ x ≤ 9223372036854775807) : Calls Try.prog 28 #[.int .i64 x] w (KnownFar w (knownD (x % 12).toNat)) := by
  have h : x % 12 = 0 ∨ x % 12 = 1 ∨ x % 12 = 2 ∨ x % 12 = 3 ∨ x % 12 = 4 ∨ x % 12 = 5 ∨ x % 12 = 6 ∨ x % 12 = 7 ∨ x % 12 = 8 ∨ x % 12 = 9 ∨ x % 12 = 10 ∨ x % 12 = 11 := by omega
  rcases h with h | h | h | h | h | h | h | h | h | h | h | h
  · rw [h]; exact knownF_0 w x hx h
  · rw [h]; exact knownF_1 w x hx h
  · rw [h]; exact knownF_2 w x hx h
  · rw [h]; exact knownF_3 w x hx h
  · rw [h]; exact knownF_4 w x hx h
  · rw [h]; exact knownF_5 w x hx h
  · rw [h]; exact knownF_6 w x hx h
  · rw [h]; exact knownF_7 w x hx h
  · rw [h]; exact knownF_8 w x hx h
  · rw [h]; exact knownF_9 w x hx h
  · rw [h]; exact knownF_10 w x hx h
  · rw [h]; exact knownF_11 w x hx h
end Go.Proofs
