/- The laws of chapter 18: long, vast, small, three, awake; The walk of CosetRuns; Arguments opened: lists of numbers, tables, presentations; Arguments opened: presentations. -/
import Derived.Test.YtcfighimnkfmeaaZ27
import Derived.Test.YtcfighimnkfmeaaZ13
import Derived.Test.YtcfighimnkfmeaaZ3
import Derived.ProofKit
import Derived.Deep.Slices
import Derived.Deep.Strs
namespace Go.Proofs
open Go.RowKit Go.Shelf Go.Proofs.Ct Go.Maps

set_option maxRecDepth 100000 in
set_option maxHeartbeats 400000 in
theorem vast30_any (w : World) (v : Value) (t : Tb) (ht : Tab w v t) : Calls Try.prog 30 #[v] w fun e w' => SomeBool e ∧ w' = w := by
  obtain ⟨A, c, rfl, h1, h2, h3⟩ := ht.open_
  have HT := Lib.hid h3
  clear h3 ht
  have hn0 : (0 : Int) ≤ (t.length : Int) := Int.natCast_nonneg _
  go_enter Try.func30, Try.ntmps30
  go_wp2_with fail
  go_loopw [3] (fun i wr => ∃ k : Nat, i = .int .i64 k ∧ k ≤ t.length ∧ k ≤ 61 ∧ wr = w) (fun i _ => t.length - (intOf i).toNat)
  case atStart => exact ⟨0, rfl, by omega, by omega, rfl⟩
  case round =>
    obtain ⟨k, rfl, hk, hk61, rfl⟩ := hrel
    have hk0 : (0 : Int) ≤ (k : Int) := Int.natCast_nonneg _
    by_cases hlt : k < t.length
    · have hlt' : (k : Int) < (t.length : Int) := by omega
      by_cases h61 : k < 61
      · have h61' : (k : Int) < 61 := by omega
        obtain ⟨b, o, rfl, hcc⟩ := HT.out (by omega)
        obtain ⟨u, hu, hI⟩ := hcc k hlt
        obtain ⟨Au, cu, rfl, -, -, -⟩ := hI.open_
        clear hcc hI
        generalize (t.getD k []).length = rl at *
        by_cases hr : 40 < rl
        · have hr' : (40 : Int) < (rl : Int) := by omega
          go_wp2_with fail
          go_ret
          exact ⟨⟨_, rfl⟩, (by first | trivial | rfl)⟩
        · have hr' : ¬ (40 : Int) < (rl : Int) := by omega
          go_wp2_with fail
          go_roundw
          case rel => exact ⟨k + 1, by go_num, by omega, by omega, (by first | trivial | rfl)⟩
          case measure => simp [intOf]; omega
      · have h61' : ¬ (k : Int) < 61 := by omega
        go_wp2_with fail
        go_ret
        exact ⟨⟨_, rfl⟩, (by first | trivial | rfl)⟩
    · have hlt' : ¬ (k : Int) < (t.length : Int) := by omega
      go_wp2_with fail
      go_ret
      exact ⟨⟨_, rfl⟩, (by first | trivial | rfl)⟩

set_option maxRecDepth 100000 in
theorem small55_any (w : World) : Calls Try.prog 55 #[] w (PresAt 2 smallT w) := by
  have hg : ∀ i o, [Obj.cells zero40 40, .cells (ints [1, 1]).toArray 3, .cells (ints [2, 2, 2]).toArray 3, .cells (ints [1, 2, 1, 2]).toArray 3, .cells #[.slice (some ⟨w.heap.size + 1, 0, none⟩) 2 2, .slice (some ⟨w.heap.size + 1 + 1, 0, none⟩) 3 3, .slice (some ⟨w.heap.size + 1 + 1 + 1, 0, none⟩) 4 4] 25][i]? = some o →
      (((((w.alloc (.cells zero40 40)).alloc (.cells (ints [1, 1]).toArray 3)).alloc (.cells (ints [2, 2, 2]).toArray 3)).alloc (.cells (ints [1, 2, 1, 2]).toArray 3)).alloc (.cells #[.slice (some ⟨w.heap.size + 1, 0, none⟩) 2 2, .slice (some ⟨w.heap.size + 1 + 1, 0, none⟩) 3 3, .slice (some ⟨w.heap.size + 1 + 1 + 1, 0, none⟩) 4 4] 25)).heap[w.heap.size + i]? = some o := fun i o h => allocs_get _ w i o h
  have hb : Below w.heap.size w (((((w.alloc (.cells zero40 40)).alloc (.cells (ints [1, 1]).toArray 3)).alloc (.cells (ints [2, 2, 2]).toArray 3)).alloc (.cells (ints [1, 2, 1, 2]).toArray 3)).alloc (.cells #[.slice (some ⟨w.heap.size + 1, 0, none⟩) 2 2, .slice (some ⟨w.heap.size + 1 + 1, 0, none⟩) 3 3, .slice (some ⟨w.heap.size + 1 + 1 + 1, 0, none⟩) 4 4] 25)) :=
    allocs_below [Obj.cells zero40 40, .cells (ints [1, 1]).toArray 3, .cells (ints [2, 2, 2]).toArray 3, .cells (ints [1, 2, 1, 2]).toArray 3, .cells #[.slice (some ⟨w.heap.size + 1, 0, none⟩) 2 2, .slice (some ⟨w.heap.size + 1 + 1, 0, none⟩) 3 3, .slice (some ⟨w.heap.size + 1 + 1 + 1, 0, none⟩) 4 4] 25] w w.heap.size (Nat.le_refl _)
  have HG := Lib.hid hg
  have HB := Lib.hid hb
  have HX := Lib.hid (hg 0 _ rfl)
  clear hg hb
  go_enter Try.func55, Try.ntmps55
  go_wp2_with (first
    | ((with_reducible refine wpList_sel 0 ?_); refine wpList_val rfl (r_alloc40 rfl) ?_)
    | ((with_reducible refine wpList_sel 5 ?_); refine wpList_val rfl (r_build40s _ (.tmp 4) 2 _ _ _ rfl rfl rfl) ?_; refine wpList_skip rfl (r_store40 (.tmp 0) (.tmp 5) rfl w.heap.size zero40 _ rfl rfl HX.out rfl rfl (one40 _ _ _ _)) ?_))
  try simp only [Exit.inBlock, Exit.then]
  refine bodyPost_ret (results_40 (p := 0) rfl _ _ w.heap.size _ rfl (setRow_heap _ _ _ _ _ _ HX.out) rfl) rfl ⟨⟨_, _, rfl, ?_⟩, below_setRow HB.out (Nat.le_refl _) _⟩
  refine tab_blk ((setRow_other _ _ _ _ (by omega)).trans (HG.out 4 _ rfl)) rfl rfl (by simp) fun i hi => ?_
  have hi3 : i = 0 ∨ i = 1 ∨ i = 2 := by simp [smallT] at hi; omega
  rcases hi3 with rfl | rfl | rfl
  · exact ints_blk ((setRow_other _ _ _ _ (by omega)).trans (HG.out 1 _ rfl)) (fits_lit (by decide)) rfl (by omega)
  · exact ints_blk ((setRow_other _ _ _ _ (by omega)).trans (HG.out 2 _ rfl)) (fits_lit (by decide)) rfl (by omega)
  · exact ints_blk ((setRow_other _ _ _ _ (by omega)).trans (HG.out 3 _ rfl)) (fits_lit (by decide)) rfl (by omega)


/-- long's answer: where it says no, the words are short -/
def LongSaid (l : List (List Int)) (e : Ending) : Prop := ∃ b, e = .returned (.bool b) ∧ (b = false → l.length ≤ 110 ∧ ∀ j, (l.getD j []).length ≤ 60)
set_option maxRecDepth 100000 in
set_option maxHeartbeats 1000000 in
theorem long29_any (w : World) (v : Value) (t : Tb) (ht : Tab w v t) : Calls Try.prog 29 #[v] w fun e w' => LongSaid t e ∧ w' = w := by
  obtain ⟨A, c, rfl, h1, h2, h3⟩ := ht.open_
  have HT := Lib.hid h3
  clear h3 ht
  have hn0 : (0 : Int) ≤ (t.length : Int) := Int.natCast_nonneg _
  go_enter Try.func29, Try.ntmps29
  go_wp2_with fail
  go_loopw [3] (fun i wr => ∃ k : Nat, i = .int .i64 k ∧ k ≤ t.length ∧ k ≤ 111 ∧ Hid (∀ j, j < k → (t.getD j []).length ≤ 60) ∧ wr = w) (fun i _ => t.length - (intOf i).toNat)
  case atStart => exact ⟨0, rfl, by omega, by omega, Lib.hid (fun j hj => absurd hj (Nat.not_lt_zero _)), rfl⟩
  case round =>
    obtain ⟨k, rfl, hk, hk41, HL, rfl⟩ := hrel
    have hk0 : (0 : Int) ≤ (k : Int) := Int.natCast_nonneg _
    by_cases hlt : k < t.length
    · have hlt' : (k : Int) < (t.length : Int) := by omega
      by_cases h41 : k < 111
      · have h41' : (k : Int) < 111 := by omega
        obtain ⟨b, o, rfl, hcc⟩ := HT.out (by omega)
        obtain ⟨u, hu, hI⟩ := hcc k hlt
        obtain ⟨Au, cu, rfl, -, -, -⟩ := hI.open_
        have HL2 : Hid ((t.getD k []).length ≤ 60 → ∀ j, j < k + 1 → (t.getD j []).length ≤ 60) := Lib.hid fun h => all_succ HL.out h
        clear hcc hI
        generalize (t.getD k []).length = rl at *
        have hrl0 : (0 : Int) ≤ (rl : Int) := Int.natCast_nonneg _
        by_cases hr : 60 < rl
        · have hr' : (60 : Int) < (rl : Int) := by omega
          have HD : Hid (LongSaid t (.returned (.bool true))) := Lib.hid ⟨true, rfl, fun h => by cases h⟩
          go_wp2_with fail
          go_ret
          exact ⟨HD.out, (by first | trivial | rfl)⟩
        · have hr' : ¬ (60 : Int) < (rl : Int) := by omega
          have HL3 := Lib.hid (HL2.out (by omega))
          by_cases h10 : 10 ≤ k
          · have h10' : (10 : Int) ≤ (k : Int) := by omega
            by_cases hr3 : 3 < rl
            · have hr3' : (3 : Int) < (rl : Int) := by omega
              have HD : Hid (LongSaid t (.returned (.bool true))) := Lib.hid ⟨true, rfl, fun h => by cases h⟩
              go_wp2_with fail
              go_ret
              exact ⟨HD.out, (by first | trivial | rfl)⟩
            · have hr3' : ¬ (3 : Int) < (rl : Int) := by omega
              go_wp2_with fail
              go_roundw
              case rel => exact ⟨k + 1, by go_num, by omega, by omega, HL3, (by first | trivial | rfl)⟩
              case measure => simp [intOf]; omega
          · have h10' : ¬ (10 : Int) ≤ (k : Int) := by omega
            go_wp2_with fail
            go_roundw
            case rel => exact ⟨k + 1, by go_num, by omega, by omega, HL3, (by first | trivial | rfl)⟩
            case measure => simp [intOf]; omega
      · have h41' : ¬ (k : Int) < 111 := by omega
        have hbig : (110 : Int) < (t.length : Int) := by omega
        have HD : Hid (LongSaid t (.returned (.bool true))) := Lib.hid ⟨true, rfl, fun h => by cases h⟩
        go_wp2_with fail
        go_ret
        exact ⟨HD.out, (by first | trivial | rfl)⟩
    · have hlt' : ¬ (k : Int) < (t.length : Int) := by omega
      by_cases hbig : 110 < t.length
      · have hbig' : (110 : Int) < (t.length : Int) := by omega
        have HD : Hid (LongSaid t (.returned (.bool true))) := Lib.hid ⟨true, rfl, fun h => by cases h⟩
        go_wp2_with fail
        go_ret
        exact ⟨HD.out, (by first | trivial | rfl)⟩
      · have hbig' : ¬ (110 : Int) < (t.length : Int) := by omega
        have HD : Hid (LongSaid t (.returned (.bool false))) := Lib.hid ⟨false, rfl, fun _ => ⟨by omega, fun j => by
          rcases Nat.lt_or_ge j k with hj | hj
          · exact HL.out j hj
          · rw [List.getD_eq_getElem?_getD, List.getElem?_eq_none (by omega)]
            exact Nat.zero_le _⟩⟩
        go_wp2_with fail
        go_ret
        exact ⟨HD.out, (by first | trivial | rfl)⟩

def threeT : List (List Int) := [[0, 0, 1, 2], [2, 2, 2, 0], [1, 1, 0, 1]]
theorem three56_any (w : World) : Calls Try.prog 56 #[] w fun e w' => (∃ u, e = .returned u ∧ Tab w' u threeT) ∧ Below w.heap.size w w' := by
  have h1 := ints_lit w [0, 0, 1, 2] (by unfold Fits; decide) 4 rfl (by omega)
  have h2 := ints_lit (w.alloc (.cells (ints [0, 0, 1, 2]).toArray 3)) [2, 2, 2, 0] (by unfold Fits; decide) 4 rfl (by omega)
  have h3 := ints_lit ((w.alloc (.cells (ints [0, 0, 1, 2]).toArray 3)).alloc (.cells (ints [2, 2, 2, 0]).toArray 3)) [1, 1, 0, 1] (by unfold Fits; decide) 4 rfl (by omega)
  have h4 := tab_three _ _ _ _ _ _ _ (h1.below (((Below.refl _ _).alloc (Nat.le_refl _) _).alloc (by simp) _)) (h2.below ((Below.refl _ _).alloc (Nat.le_refl _) _)) h3 (e := 24)
  have hb : Below w.heap.size w ((((w.alloc (.cells (ints [0, 0, 1, 2]).toArray 3)).alloc (.cells (ints [2, 2, 2, 0]).toArray 3)).alloc (.cells (ints [1, 1, 0, 1]).toArray 3)).alloc (.cells #[.slice (some ⟨w.heap.size, 0, none⟩) 4 4, .slice (some ⟨w.heap.size + 1, 0, none⟩) 4 4, .slice (some ⟨w.heap.size + 1 + 1, 0, none⟩) 4 4] 24)) :=
    (((((Below.refl _ _).alloc (Nat.le_refl _) _).alloc (by simp) _).alloc (by simp; omega) _).alloc (by simp; omega) _)
  simp only [World.size_alloc] at h4
  have H4 := Lib.hid h4
  have HB := Lib.hid hb
  clear h1 h2 h3 h4 hb
  go_enter Try.func56, Try.ntmps56
  go_wp2_with fail
  go_ret
  exact ⟨⟨_, rfl, H4.out⟩, HB.out⟩

theorem wake_enum : enumE 2 smallT [[1]] 100 = (threeT, (3, 3), 0) := by decide +kernel
/-- a list of one word of one letter -/
theorem one_word (w : World) (x : Int) (hx : -1000 ≤ x ∧ x ≤ 1000) : Tab ((w.alloc (.cells #[.int .i64 x] 3)).alloc (.cells #[.slice (some ⟨w.heap.size, 0, none⟩) 1 1] 25)) (.slice (some ⟨w.heap.size + 1, 0, none⟩) 1 1) [[x]] := by
  have h1 := ints_lit w [x] (fun y hy => by simp at hy; omega) 1 rfl (by omega)
  have hb : Below (w.alloc (.cells #[.int .i64 x] 3)).heap.size (w.alloc (.cells #[.int .i64 x] 3)) ((w.alloc (.cells #[.int .i64 x] 3)).alloc (.cells #[.slice (some ⟨w.heap.size, 0, none⟩) 1 1] 25)) := (Below.refl _ _).alloc (Nat.le_refl _) _
  have h2 := heap_alloc_new (w.alloc (.cells #[.int .i64 x] 3)) (.cells #[.slice (some ⟨w.heap.size, 0, none⟩) 1 1] 25)
  rw [World.size_alloc] at h2
  exact tab_blk (us := [.slice (some ⟨w.heap.size, 0, none⟩) 1 1]) h2 rfl rfl (by simp) fun i hi => by
    have : i = 0 := by simpa using hi
    subst this
    exact IntsAt.below h1 hb
theorem one_word_below (w : World) (x : Int) : Below w.heap.size w ((w.alloc (.cells #[.int .i64 x] 3)).alloc (.cells #[.slice (some ⟨w.heap.size, 0, none⟩) 1 1] 25)) := ((Below.refl _ _).alloc (Nat.le_refl _) _).alloc (by simp) _
set_option maxRecDepth 100000 in
set_option maxHeartbeats 1000000 in
theorem awake31_any (w : World) : Calls Try.prog 31 #[] w fun e w' => e = .returned (.bool true) ∧ Below w.heap.size w w' := by
  have HE := Lib.hid (fun W vr vs (h1 : Tab W vr smallT) (h2 : Tab W vs [[1]]) => (enum32_any W vr vs 2 smallT [[1]] 100 h1 h2 (fun j => by
      rcases j with _ | j
      · simp
      · simp) (by simp)).mono fun e w' (⟨⟨u, h1, h2⟩, h3⟩ : EnumPost 2 smallT [[1]] 100 W e w') => by
    rw [wake_enum] at h1 h2
    exact (⟨⟨u, h1, h2⟩, h3⟩ : (∃ u, e = .returned (.tuple #[u, .agg #[.int .i64 3, .int .i64 3, .int .i64 0], .int .i64 0]) ∧ Tab w' u threeT) ∧ Below W.heap.size W w'))
  have HS := Lib.hid fun (W : World) (a b : Value) (h1 : Tab W a threeT) (h2 : Tab W b threeT) => (same18_any W a b threeT threeT h1 h2)
  go_enter Try.func31, Try.ntmps31
  go_wp2_with (first
    | (go_at_call 55; (refine (small55_any _).mono ?_); rintro e w1 ⟨⟨A, c, rfl, ht⟩, hb⟩
       have HT1 := Lib.hid ht
       have HB1 := Lib.hid hb
       clear ht hb)
    | (go_at_call 32; (refine (HE.out _ _ _ (kept_tab.below HT1.out (one_word_below w1 1)) (one_word w1 1 (by omega))).mono ?_); rintro e w2 ⟨⟨u, rfl, ht⟩, hb⟩
       have HT2 := Lib.hid ht
       have HB2 := Lib.hid ((HB1.out.trans ((one_word_below w1 1).mono HB1.out.size)).trans (hb.mono (Nat.le_trans HB1.out.size (one_word_below w1 1).size)))
       obtain ⟨A2, c2, rfl⟩ := Tab.form ht
       have HBa : Hid (Below w2.heap.size w2 (w2.alloc (.cells #[.int .i64 3, .int .i64 3, .int .i64 0] 49))) := Lib.hid ((Below.refl _ _).alloc (Nat.le_refl _) _)
       clear ht hb)
    | (go_at_call 56; (refine (three56_any _).mono ?_); rintro e w3 ⟨⟨u3, rfl, ht⟩, hb⟩
       have HT3 := Lib.hid ht
       have HB3 := Lib.hid (HBa.out.trans (hb.mono HBa.out.size))
       clear ht hb)
    | (go_at_call 34; (refine (HS.out _ _ _ (kept_tab.below HT2.out HB3.out) HT3.out).mono ?_); rintro e w4 ⟨rfl, q, rfl⟩))
  go_ret
  exact ⟨ret_bool (by simp), below_drewN (HB2.out.trans (HB3.out.mono HB2.out.size)) _⟩
end Go.Proofs
namespace Go.Proofs
open Go.RowKit Go.Shelf Go.Proofs.Ct Go.Maps

theorem neq49 (a b c : Int) (w : World) : (binOp .neq 49 (.agg #[.int .i64 a, .int .i64 b, .int .i64 c]) (.agg #[.int .i64 a, .int .i64 b, .int .i64 c])).run Try.prog w = .ok (.bool false) w := by
  simp [go_sem]

theorem cells49 {w : World} {b : Nat} {x y z : Value} (h : w.heap[b]? = some (.cells #[x, y, z] 49 (0, 0))) : w.cell? ⟨b, 0, none⟩ = some x ∧ w.cell? ⟨b, 1, none⟩ = some y ∧ w.cell? ⟨b, 2, none⟩ = some z := by
  refine ⟨?_, ?_, ?_⟩ <;> (rw [cell_of_row _ _ _ _ _ _ h]; rfl)
set_option maxRecDepth 100000 in
set_option maxHeartbeats 4000000 in
theorem runs_walk (w : World) (g : Int) (vr vs vt : Value) (limit : Int) (rels sub : List W) (t : Tb) (hR : Tab w vr rels) (hS : Tab w vs sub) (ht : Tab w vt t) :
    Calls Try.prog 6 #[.agg #[.int .i64 g, vr], vs, .int .i64 limit, vt] w fun e w' => e = .returned (.bool true) ∧ Below w.heap.size w w' := by
  obtain ⟨Ar, cr, rfl⟩ := Tab.form hR
  obtain ⟨As, cs, rfl⟩ := Tab.form hS
  obtain ⟨At, ct, rfl⟩ := Tab.form ht
  have HP : Hid (∀ W, W = w.alloc (.cells #[.int .i64 g, .slice Ar rels.length cr] 40) → Below w.heap.size w W ∧ W.heap[w.heap.size]? = some (.cells #[.int .i64 g, .slice Ar rels.length cr] 40 (0, 0)) ∧ W.heap.size = w.heap.size + 1) := Lib.hid fun W h => by
    subst h
    exact ⟨(Below.refl _ _).alloc (Nat.le_refl _) _, heap_alloc_new w _, by simp⟩
  have HRR := Lib.hid hR
  have HSS := Lib.hid hS
  have HTT := Lib.hid ht
  clear hR hS ht
  go_enter Try.func6, Try.ntmps6
  go_wp2_with fail
  generalize hw0 : w.alloc (.cells #[.int .i64 g, .slice Ar rels.length cr] 40) = w0 at *
  obtain ⟨hb0, hbx, hsz⟩ := HP.out w0 rfl
  have HB0 := Lib.hid hb0
  have HLD : Hid (∀ W, Below w0.heap.size w0 W → (Instr.loadAt 40 (.pointer (some ⟨w.heap.size, 0, none⟩))).run Try.prog W = .ok (.agg #[.int .i64 g, .slice Ar rels.length cr]) W) := Lib.hid fun W h => load40 ((h.block _ (by omega)).trans hbx)
  have HTR : Hid (∀ W, Below w0.heap.size w0 W → Tab W (.slice Ar rels.length cr) rels) := Lib.hid fun W h => kept_tab.below HRR.out (hb0.trans (h.mono hb0.size))
  have HTS : Hid (∀ W, Below w0.heap.size w0 W → Tab W (.slice As sub.length cs) sub) := Lib.hid fun W h => kept_tab.below HSS.out (hb0.trans (h.mono hb0.size))
  have HTT2 : Hid (∀ W, Below w0.heap.size w0 W → Tab W (.slice At t.length ct) t) := Lib.hid fun W h => kept_tab.below HTT.out (hb0.trans (h.mono hb0.size))
  have HRF := Lib.hid (Below.refl w0.heap.size w0)
  clear hw0 hb0 hbx hsz HP HRR HSS HTT
  have HEND : Hid (∀ W, Below w0.heap.size w0 W → Below w.heap.size w W) := Lib.hid fun W h => HB0.out.trans (h.mono HB0.out.size)
  refine (long29_any w0 _ rels (HTR.out w0 HRF.out)).mono ?_
  rintro e w' ⟨⟨b, rfl, hb1⟩, rfl⟩
  cases b with
  | true =>
    go_wp2_with (go_at_call 31; (refine (awake31_any _).mono ?_); rintro e w3 ⟨rfl, hb⟩
                 have HB := Lib.hid hb
                 clear hb)
    go_ret
    exact ⟨rfl, HEND.out _ HB.out⟩
  | false =>
    have HR1 := Lib.hid (hb1 rfl)
    clear hb1
    go_wp2_with fail
    refine (long29_any _ _ sub (HTS.out _ HRF.out)).mono ?_
    rintro e w' ⟨⟨b, rfl, hb1⟩, rfl⟩
    cases b with
    | true =>
      go_wp2_with (go_at_call 31; (refine (awake31_any _).mono ?_); rintro e w3 ⟨rfl, hb⟩
                   have HB := Lib.hid hb
                   clear hb)
      go_ret
      exact ⟨rfl, HEND.out _ HB.out⟩
    | false =>
      have HS1 := Lib.hid (hb1 rfl)
      clear hb1
      by_cases hlim : 300 < limit ∧ limit ≤ 20000
      · obtain ⟨hl1, hl2⟩ := hlim
        go_wp2_with (go_at_call 31; (refine (awake31_any _).mono ?_); rintro e w3 ⟨rfl, hb⟩
                     have HB := Lib.hid hb
                     clear hb)
        go_ret
        exact ⟨rfl, HEND.out _ HB.out⟩
      · have H32 : Hid (∀ W, Below w'.heap.size w' W → Calls Try.prog 32 #[.agg #[.int .i64 g, .slice Ar rels.length cr], .slice As sub.length cs, .int .i64 limit] W (EnumPost g rels sub limit W)) := Lib.hid fun W h => enum32_any W _ _ g rels sub limit (HTR.out W h) (HTS.out W h) (fun j => by have := HS1.out.2 j; omega) (by have := HS1.out.1; omega)
        have H33 : Hid (∀ W, Below w'.heap.size w' W → Calls Try.prog 33 #[.agg #[.int .i64 g, .slice Ar rels.length cr], .slice As sub.length cs, .int .i64 limit] W (EnumPost g rels sub limit W)) := Lib.hid fun W h => enum33_any W _ _ g rels sub limit (HTR.out W h) (HTS.out W h) (fun j => by have := HS1.out.2 j; omega) (fun j => by have := HR1.out.2 j; omega) (by have := HS1.out.1; omega)
        have H35 : Hid (∀ W, Below w'.heap.size w' W → Calls Try.prog 35 #[.agg #[.int .i64 g, .slice Ar rels.length cr], .slice As sub.length cs, .slice At t.length ct] W (HoldsPost g rels sub t W)) := Lib.hid fun W h => holds35_any W _ _ _ g rels sub t (HTR.out W h) (HTS.out W h) (HTT2.out W h)
        have H36 : Hid (∀ W, Below w'.heap.size w' W → Calls Try.prog 36 #[.agg #[.int .i64 g, .slice Ar rels.length cr], .slice As sub.length cs, .slice At t.length ct] W (HoldsPost g rels sub t W)) := Lib.hid fun W h => holds36_any W _ _ _ g rels sub t (HTR.out W h) (HTS.out W h) (HTT2.out W h) (fun j => by have := HR1.out.2 j; omega)
        have H34 : Hid (∀ (W : World) (a b : Value), Tab W a (enumE g rels sub limit).1 → Tab W b (enumE g rels sub limit).1 → Calls Try.prog 34 #[a, b] W fun e w'' => e = .returned (.bool true) ∧ ∃ q, w'' = W.drewN q) := Lib.hid fun W a b h1 h2 => (same18_any W a b _ _ h1 h2).mono fun e w'' ⟨h, h'⟩ => ⟨h.trans (ret_bool (decide_eq_true rfl)), h'⟩
        have HVA := Lib.hid (vast30_any w' _ t (HTT2.out _ HRF.out))
        have HAL : Hid (∀ (W : World) (C : Array Value), Below w'.heap.size w' W → Below w'.heap.size w' (W.alloc (.cells C 49))) := Lib.hid fun W C h => h.alloc h.size _
        unfold EnumPost at H32 H33
        unfold HoldsPost at H35 H36
        generalize (enumE g rels sub limit).1 = T at *
        generalize (enumE g rels sub limit).2.1.1 = n1 at *
        generalize (enumE g rels sub limit).2.1.2 = n2 at *
        generalize (enumE g rels sub limit).2.2 = n3 at *
        generalize (holdsE g rels sub t).1 = y1 at *
        generalize (holdsE g rels sub t).2 = y2 at *
        clear HR1 HS1 HTR HTS HTT2
        have hq := neq49 n1 n2 0
        have hxx : (n3 != n3) = false := by simp
        have hyy : (y1 == y1) = true := by simp
        have hzz : (y2 == y2) = true := by simp
        have hor : limit ≤ 300 ∨ (300 < limit ∧ 20000 < limit) := by omega
        clear hlim
        rcases hor with hl | ⟨hl, hl2⟩
        all_goals
          go_wp2_with fail
          refine HVA.out.mono ?_
          rintro e w2 ⟨⟨b, rfl⟩, rfl⟩
          cases b with
          | true =>
            go_wp2_with (go_at_call 31; (refine (awake31_any _).mono ?_); rintro e w3 ⟨rfl, hb⟩
                         have HB := Lib.hid hb
                         clear hb)
            go_ret
            exact ⟨rfl, HEND.out _ HB.out⟩
          | false =>
            go_wp2_with (first
              | ((with_reducible refine wpList_sel 38 ?_); refine wpList_val rfl (r_loadAt 40 (.tmp 4) _ _ rfl rfl (HLD.out _ HRF.out)) ?_)
              | (go_at_call 32; (refine (H32.out _ HRF.out).mono ?_); rintro e w3 ⟨⟨u1, rfl, hx⟩, hb⟩
                 have HB3 := Lib.hid hb
                 have HC3 := Lib.hid (HAL.out w3 #[.int .i64 n1, .int .i64 n2, .int .i64 0] hb)
                 have HX1 := Lib.hid (kept_tab.below hx ((Below.refl w3.heap.size w3).alloc (Nat.le_refl _) (.cells #[.int .i64 n1, .int .i64 n2, .int .i64 0] 49)))
                 have HN3 : Hid (∀ W, Below (w3.alloc (.cells #[.int .i64 n1, .int .i64 n2, .int .i64 0] 49)).heap.size (w3.alloc (.cells #[.int .i64 n1, .int .i64 n2, .int .i64 0] 49)) W → W.cell? ⟨w3.heap.size, 0, none⟩ = some (.int .i64 n1) ∧ W.cell? ⟨w3.heap.size, 1, none⟩ = some (.int .i64 n2) ∧ W.cell? ⟨w3.heap.size, 2, none⟩ = some (.int .i64 0)) := Lib.hid fun W h => cells49 ((h.block _ (by simp)).trans (heap_alloc_new w3 _))
                 obtain ⟨A1, k1, rfl⟩ := Tab.form HX1.out
                 clear hb hx)
              | ((with_reducible refine wpList_sel 46 ?_); refine wpList_val rfl (r_loadAt 40 (.tmp 4) _ _ rfl rfl (HLD.out _ HC3.out)) ?_)
              | (go_at_call 33; (refine (H33.out _ HC3.out).mono ?_); rintro e w4 ⟨⟨u2, rfl, hx⟩, hb⟩
                 have HB4 := Lib.hid (HC3.out.trans (hb.mono HC3.out.size))
                 have HC4 := Lib.hid (HAL.out w4 #[.int .i64 n1, .int .i64 n2, .int .i64 0] HB4.out)
                 have HD4 := Lib.hid ((Below.refl w4.heap.size w4).alloc (Nat.le_refl _) (.cells #[.int .i64 n1, .int .i64 n2, .int .i64 0] 49))
                 have HX2 := Lib.hid (kept_tab.below hx HD4.out)
                 have HX14 := Lib.hid (kept_tab.below (kept_tab.below HX1.out hb) HD4.out)
                 obtain ⟨d1, d2, d3⟩ := HN3.out _ (hb.trans (HD4.out.mono hb.size))
                 obtain ⟨A2, k2, rfl⟩ := Tab.form hx
                 clear hb hx)
              | (go_at_call 34; (refine (H34.out _ _ _ HX14.out HX2.out).mono ?_); rintro e w5 ⟨rfl, q, rfl⟩
                 have HC5 := Lib.hid (below_drewN HC4.out q)
                 clear d1 d2 d3)
              | ((with_reducible refine wpList_sel 68 ?_); refine wpList_val rfl (r_loadAt 40 (.tmp 4) _ _ rfl rfl (HLD.out _ HC5.out)) ?_)
              | (go_at_call 35; (refine (H35.out _ HC5.out).mono ?_); rintro e w6 ⟨rfl, hb⟩
                 have HB6 := Lib.hid (HC5.out.trans (hb.mono HC5.out.size))
                 clear hb)
              | ((with_reducible refine wpList_sel 75 ?_); refine wpList_val rfl (r_loadAt 40 (.tmp 4) _ _ rfl rfl (HLD.out _ HB6.out)) ?_)
              | (go_at_call 36; (refine (H36.out _ HB6.out).mono ?_); rintro e w7 ⟨rfl, hb⟩
                 have HB7 := Lib.hid (HB6.out.trans (hb.mono HB6.out.size))
                 clear hb)
              | (go_at_call 31; (refine (awake31_any _).mono ?_); rintro e w8 ⟨rfl, hb⟩
                 have HB8 := Lib.hid (HB7.out.trans (hb.mono HB7.out.size))
                 clear hb))
            go_ret
            exact ⟨rfl, HEND.out _ HB8.out⟩
end Go.Proofs
namespace Go.Proofs
open Go.RowKit Go.ChangeShapes Go.WideShapes Go.ChangeAt Go.Deep

section
variable {H : Type} {enc : TypeId × Value → H} {W : World}
theorem spot_none {a : Addr} {v : Value} (h : W.cell? (a.add 0) = some v) : a = ⟨a.block, a.off, none⟩ := by
  obtain ⟨b, o, s⟩ := a
  cases s with
  | none => rfl
  | some q =>
    exfalso
    have e : ({ block := b, off := o, spot := some q } : Addr).add 0 = { block := b, off := o, spot := some q } := by unfold Addr.add; rw [if_pos rfl]
    rw [e] at h
    unfold World.cell? at h
    simp only [Option.isSome_some, if_true] at h
    split at h <;> cases h
theorem wf_fits {x : Int} (h : (Lit.int .i64 x).wf = true) : -9223372036854775808 ≤ x ∧ x ≤ 9223372036854775807 := by
  simpa [Lit.wf, IntKind.min, IntKind.max, IntKind.signed, IntKind.bits] using h
theorem lat_of_trod {α : Type} {R : World → Value → α → Prop} {d : α} {t e : TypeId} {base fuel : Nat} {spare : Nat → Bool} {held : Bool} {v : Value} {x : DataW H × List MemPlace} (ht : Try.prog.underlying t = some (.slice e)) (hc : Try.prog.cellsOf e = 1)
    (hR : ∀ n u y, DataW.trod enc Try.prog W base spare held n e [u] = some y → ∃ z, R W u z) (h : DataW.trod enc Try.prog W base spare held fuel t [v] = some x) : ∃ xs, LAt R d W v xs := by
  rcases open_slice1 ht hc h with ⟨hv, -⟩ | ⟨a, len, cap, m, n, V, D, Pl, hv, -, hl, hm, hmm, -, hx⟩
  · obtain rfl : v = .slice none 0 0 := by simpa using hv
    exact ⟨[], [], ⟨none, 0, 0, rfl, rfl, Nat.le_refl _, by simp [maxLen], fun h => absurd h (by simp)⟩, rfl, fun i hi => absurd hi (by simp)⟩
  · obtain rfl : v = .slice (some a) len cap := by simpa using hv
    have hlm : len ≤ m := by rw [hmm]; split <;> omega
    have hz : ∀ i, i < len → ∃ z, R W (V i) z := fun i hi => hR n (V i) _ (hx i (by omega)).2
    have hf : ∃ f : Nat → α, ∀ i, i < len → R W (V i) (f i) := by
      have hz' : ∀ i, ∃ z, i < len → R W (V i) z := fun i => by
        by_cases hi : i < len
        · obtain ⟨z, hz⟩ := hz i hi; exact ⟨z, fun _ => hz⟩
        · exact ⟨d, fun h => absurd h hi⟩
      exact ⟨fun i => Classical.choose (hz' i), fun i => Classical.choose_spec (hz' i)⟩
    obtain ⟨f, hf⟩ := hf
    refine ⟨(List.range len).map f, (List.range len).map V, ⟨_, len, cap, rfl, by simp, hl, hm, fun h0 => ?_⟩, by simp, fun i hi => ?_⟩
    · have hsp := spot_none (hx 0 (by omega)).1
      refine ⟨a.block, a.off, by rw [← hsp], fun j u hu => ?_⟩
      have hj : j < len := by have := (List.getElem?_eq_some_iff.1 hu).1; simpa using this
      have := (hx j (by omega)).1
      rw [hsp, Addr.add_lit] at this
      rw [this, ← hu]
      simp [List.getElem?_range hj]
    · have hi' : i < len := by simpa using hi
      refine ⟨V i, by simp [List.getElem?_range hi'], ?_⟩
      have : ((List.range len).map f).getD i d = f i := by simp [List.getD_eq_getElem?_getD, List.getElem?_range hi']
      rw [this]
      exact hf i hi'
theorem intsT_of_trod {t : TypeId} (ht : Try.prog.underlying t = some (.slice 3)) {base fuel : Nat} {spare : Nat → Bool} {held : Bool} {v : Value} {x : DataW H × List MemPlace} (h : DataW.trod enc Try.prog W base spare held fuel t [v] = some x) : ∃ xs, IntsAt W v xs := by
  obtain ⟨xs, vs, hS, hl, he⟩ := lat_of_trod (R := fun _ u z => u = .int .i64 z ∧ (Lit.int .i64 z).wf = true) (d := 0) ht (by kernel_rfl) (fun n u y hy => by
    obtain ⟨m, hu, -, hw⟩ := DataW.trod_int Try.underlying3 hy
    exact ⟨m, by simpa using hu, hw⟩) h
  have hvs : vs = ints xs := by
    apply List.ext_getElem (by simpa [ints] using hl)
    intro i h1 h2
    obtain ⟨u, hu, rfl, -⟩ := he i (by omega)
    have hi : i < xs.length := by omega
    rw [List.getElem?_eq_getElem h1] at hu
    rw [Option.some.inj hu]
    simp [ints, List.getD_eq_getElem?_getD, hi]
  refine ⟨xs, hvs ▸ hS, fun z hz => ?_⟩
  obtain ⟨i, hi, rfl⟩ := List.getElem_of_mem hz
  obtain ⟨u, -, -, hw⟩ := he i hi
  have e : xs.getD i 0 = xs[i] := by simp [List.getD_eq_getElem?_getD, hi]
  rw [e] at hw
  exact wf_fits hw
theorem ints_of_trod {base fuel : Nat} {spare : Nat → Bool} {held : Bool} {v : Value} {x : DataW H × List MemPlace} (h : DataW.trod enc Try.prog W base spare held fuel 24 [v] = some x) : ∃ xs, IntsAt W v xs := intsT_of_trod Try.underlying24 h
theorem word_of_trod {base fuel : Nat} {spare : Nat → Bool} {held : Bool} {v : Value} {x : DataW H × List MemPlace} (h : DataW.trod enc Try.prog W base spare held fuel 25 [v] = some x) : ∃ xs, IntsAt W v xs := intsT_of_trod Try.underlying25 h
theorem tab_of_trod {base fuel : Nat} {spare : Nat → Bool} {held : Bool} {v : Value} {x : DataW H × List MemPlace} (h : DataW.trod enc Try.prog W base spare held fuel 23 [v] = some x) : ∃ L, Tab W v L :=
  lat_of_trod Try.underlying23 (by kernel_rfl) (fun _ _ _ hy => ints_of_trod hy) h
theorem words_of_trod {base fuel : Nat} {spare : Nat → Bool} {held : Bool} {v : Value} {x : DataW H × List MemPlace} (h : DataW.trod enc Try.prog W base spare held fuel 31 [v] = some x) : ∃ L, Tab W v L :=
  lat_of_trod Try.underlying31 (by kernel_rfl) (fun _ _ _ hy => word_of_trod hy) h
end
end Go.Proofs
namespace Go.Proofs
open Go.RowKit Go.ChangeShapes Go.WideShapes Go.ChangeAt Go.Deep

section
variable {H : Type} {enc : TypeId × Value → H} {W : World}
theorem cells40p : Try.prog.cellsOf 40 = 2 := by kernel_rfl
theorem cells3p : Try.prog.cellsOf 3 = 1 := by kernel_rfl
theorem cells31p : Try.prog.cellsOf 31 = 1 := by kernel_rfl
set_option maxRecDepth 100000 in
theorem pres_of_trod {base : Nat} {spare : Nat → Bool} {held : Bool} {v : Value} {d : DataW H} {ps : List MemPlace} (h : DataW.Trod enc Try.prog W base spare held 40 v d ps) : ∃ g a1 P, v = .agg #[.int .i64 g, a1] ∧ Tab W a1 P := by
  obtain ⟨fuel, hf⟩ := h
  obtain ⟨y0, y1, n, -, hlen, h0, h1⟩ := trod_struct2 Try.underlying40 hf
  rw [cells40p] at hlen
  obtain ⟨cs, rfl⟩ : ∃ cs, v = .agg cs := by
    cases v <;> simp [Value.cells] at hlen
    exact ⟨_, rfl⟩
  have hcs : cs.toList.length = 2 := hlen
  obtain ⟨l⟩ := cs
  match l, hcs with
  | [a0, a1], _ =>
    simp [Value.cells, cells3p, cells31p] at h0 h1
    obtain ⟨m, hu, -, hw⟩ := DataW.trod_int Try.underlying3 h0
    obtain ⟨L, hL⟩ := words_of_trod h1
    have e : a0 = .int .i64 m := by simpa using hu
    subst e
    exact ⟨m, a1, L, rfl, hL⟩
end
end Go.Proofs
