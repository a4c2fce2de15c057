/- The walk of Known, cases 7 to 13; Known; given of chapter 18; Orders of groups by a record of an enumeration: how a record is checked, and what it proves; The laws' presentations: they are valid; what Enumerate answers for them; The walk of CosetHolds; Calls as operations of a drawn region; what Enumerate answers, by blocks. -/
import Derived.Test.YtmpnengjboabcaaFtCS13
import Derived.Test.YtmpnengjboabcaaFtCS7
import Derived.Test.YtmpnengjboabcaaFtCS12
namespace Go.Proofs
open Go.RowKit Go.Shelf Go.Proofs.Ct Go.Maps
set_option maxRecDepth 100000 in
set_option maxHeartbeats 2000000 in
theorem known60_7 (w : World) (x : Int) (hx : x % 14 = 7) : Calls Try.prog 68 #[.int .i64 x] w (KnownPost 2 [powW [1] 4, powW [2] 6, [-1, -2, 1, 2]] 24 w) := by
  have HT : Hid (∀ W, Calls Try.prog 67 #[.int .i64 x, .int .i64 14] W fun e w' => e = .returned (.int .i64 7) ∧ w' = W) := Lib.hid fun W => by
    have := turn59_any W x 14 (by omega)
    rwa [show ((14 : Nat) : Int) = 14 from rfl, hx] at this
  clear hx
  unfold KnownPost
  go_enter Try.func68, Try.ntmps68
  go_wp2_with ((with_reducible refine wpList_sel 2 ?_); refine wpList_val rfl (r_alloc40 rfl) ?_)
  refine (HT.out _).mono ?_
  rintro e w1 ⟨rfl, h0⟩
  obtain ⟨hS, f4, f5, f6, f7⟩ := known_start w w1 h0
  have HS := Lib.hid hS
  have F4 := Lib.hid f4
  have F5 := Lib.hid f5
  have F6 := Lib.hid f6
  have F7 := Lib.hid f7
  clear hS f4 f5 f6 f7 h0
  go_wp2_with fail
  refine (powerK _ _ [1] 4 4 F4.out.at_ (by omega) (by decide) rfl).mono ?_
  rintro e w2 ⟨A83, c83, rfl, ho, hb⟩
  have hnew := IntsB.own (base := w.heap.size + 1) ho (fits_lit (by decide)) HS.out.lt
  have HS := Lib.hid (HS.out.below' hb)
  have F4 := Lib.hid (F4.out.below hb)
  have F5 := Lib.hid (F5.out.below hb)
  have F6 := Lib.hid (F6.out.below hb)
  have F7 := Lib.hid (F7.out.below hb)
  have F83 := Lib.hid hnew
  clear ho hb hnew
  go_wp2_with fail
  refine (powerK _ _ [2] 6 6 F5.out.at_ (by omega) (by decide) rfl).mono ?_
  rintro e w3 ⟨A85, c85, rfl, ho, hb⟩
  have hnew := IntsB.own (base := w.heap.size + 1) ho (fits_lit (by decide)) HS.out.lt
  have HS := Lib.hid (HS.out.below' hb)
  have F4 := Lib.hid (F4.out.below hb)
  have F5 := Lib.hid (F5.out.below hb)
  have F6 := Lib.hid (F6.out.below hb)
  have F7 := Lib.hid (F7.out.below hb)
  have F83 := Lib.hid (F83.out.below hb)
  have F85 := Lib.hid hnew
  clear ho hb hnew
  have hrow : ∀ i, i < 3 → IntsB (w.heap.size + 1) (w3) (([.slice A83 4 c83, .slice A85 6 c85, .slice (some ⟨w.heap.size + 1 + 1 + 1 + 1, 0, none⟩) 4 4] : List Value).getD i undef) (([powW [1] 4, powW [2] 6, [-1, -2, 1, 2]] : List W).getD i []) := fun i hi => by
    have : i = 0 ∨ i = 1 ∨ i = 2 := by omega
    rcases this with rfl | rfl | rfl
    · exact F83.out
    · exact F85.out
    · exact F7.out
  have hend := known_end HS.out (us := [.slice A83 4 c83, .slice A85 6 c85, .slice (some ⟨w.heap.size + 1 + 1 + 1 + 1, 0, none⟩) 4 4]) (xs := [powW [1] 4, powW [2] 6, [-1, -2, 1, 2]]) (n := 3) rfl rfl hrow (by omega) 2
  have HEND := Lib.hid hend
  clear hend hrow
  go_wp2_with ((with_reducible refine wpList_sel 88 ?_); refine wpList_val rfl (r_build40s _ (.tmp 87) 2 _ _ _ rfl rfl rfl) ?_; refine wpList_skip rfl (r_store40 (.tmp 2) (.tmp 88) rfl w.heap.size zero40 _ rfl rfl HEND.out.1 rfl rfl (one40 _ _ _ _)) ?_)
  try simp only [Exit.inBlock, Exit.then]
  refine bodyPost_ret (results_40_tmp (p := 2) (q := 3) rfl _ _ w.heap.size _ (.int .i64 24) rfl rfl (setRow_heap _ _ _ _ _ _ HEND.out.1) rfl) rfl ⟨⟨_, _, rfl, HEND.out.2.1⟩, HEND.out.2.2⟩
set_option maxRecDepth 100000 in
set_option maxHeartbeats 2000000 in
theorem known60_8 (w : World) (x : Int) (hx : x % 14 = 8) : Calls Try.prog 68 #[.int .i64 x] w (KnownPost 3 [powW [1] 2, powW [2] 2, [3, 3], powW [1, 2] 3, powW [2, 3] 3, powW [1, 3] 2] 24 w) := by
  have HT : Hid (∀ W, Calls Try.prog 67 #[.int .i64 x, .int .i64 14] W fun e w' => e = .returned (.int .i64 8) ∧ w' = W) := Lib.hid fun W => by
    have := turn59_any W x 14 (by omega)
    rwa [show ((14 : Nat) : Int) = 14 from rfl, hx] at this
  clear hx
  unfold KnownPost
  go_enter Try.func68, Try.ntmps68
  go_wp2_with ((with_reducible refine wpList_sel 2 ?_); refine wpList_val rfl (r_alloc40 rfl) ?_)
  refine (HT.out _).mono ?_
  rintro e w1 ⟨rfl, h0⟩
  obtain ⟨hS, f4, f5, f6, f7⟩ := known_start w w1 h0
  have HS := Lib.hid hS
  have F4 := Lib.hid f4
  have F5 := Lib.hid f5
  have F6 := Lib.hid f6
  have F7 := Lib.hid f7
  clear hS f4 f5 f6 f7 h0
  go_wp2_with fail
  refine (powerK _ _ [1] 2 2 F4.out.at_ (by omega) (by decide) rfl).mono ?_
  rintro e w2 ⟨A92, c92, rfl, ho, hb⟩
  have hnew := IntsB.own (base := w.heap.size + 1) ho (fits_lit (by decide)) HS.out.lt
  have HS := Lib.hid (HS.out.below' hb)
  have F4 := Lib.hid (F4.out.below hb)
  have F5 := Lib.hid (F5.out.below hb)
  have F6 := Lib.hid (F6.out.below hb)
  have F7 := Lib.hid (F7.out.below hb)
  have F92 := Lib.hid hnew
  clear ho hb hnew
  go_wp2_with fail
  refine (powerK _ _ [2] 2 2 F5.out.at_ (by omega) (by decide) rfl).mono ?_
  rintro e w3 ⟨A94, c94, rfl, ho, hb⟩
  have hnew := IntsB.own (base := w.heap.size + 1) ho (fits_lit (by decide)) HS.out.lt
  have HS := Lib.hid (HS.out.below' hb)
  have F4 := Lib.hid (F4.out.below hb)
  have F5 := Lib.hid (F5.out.below hb)
  have F6 := Lib.hid (F6.out.below hb)
  have F7 := Lib.hid (F7.out.below hb)
  have F92 := Lib.hid (F92.out.below hb)
  have F94 := Lib.hid hnew
  clear ho hb hnew
  have hal : Below (w3).heap.size (w3) ((w3).alloc (.cells (ints [3, 3]).toArray 3)) := (Below.refl _ _).alloc (Nat.le_refl _) _
  have hnew := IntsB.lit (base := w.heap.size + 1) (w3) [3, 3] (fits_lit (by decide)) (n := 2) rfl (by omega) HS.out.lt
  have HS := Lib.hid (HS.out.below' hal)
  have F4 := Lib.hid (F4.out.below hal)
  have F5 := Lib.hid (F5.out.below hal)
  have F6 := Lib.hid (F6.out.below hal)
  have F7 := Lib.hid (F7.out.below hal)
  have F92 := Lib.hid (F92.out.below hal)
  have F94 := Lib.hid (F94.out.below hal)
  have F95 := Lib.hid hnew
  clear hal hnew
  go_wp2_with fail
  refine (powerK _ _ [1, 2] 3 6 F6.out.at_ (by omega) (by decide) rfl).mono ?_
  rintro e w4 ⟨A97, c97, rfl, ho, hb⟩
  have hnew := IntsB.own (base := w.heap.size + 1) ho (fits_lit (by decide)) HS.out.lt
  have HS := Lib.hid (HS.out.below' hb)
  have F4 := Lib.hid (F4.out.below hb)
  have F5 := Lib.hid (F5.out.below hb)
  have F6 := Lib.hid (F6.out.below hb)
  have F7 := Lib.hid (F7.out.below hb)
  have F92 := Lib.hid (F92.out.below hb)
  have F94 := Lib.hid (F94.out.below hb)
  have F95 := Lib.hid (F95.out.below hb)
  have F97 := Lib.hid hnew
  clear ho hb hnew
  have hal : Below (w4).heap.size (w4) ((w4).alloc (.cells (ints [2, 3]).toArray 3)) := (Below.refl _ _).alloc (Nat.le_refl _) _
  have hnew := IntsB.lit (base := w.heap.size + 1) (w4) [2, 3] (fits_lit (by decide)) (n := 2) rfl (by omega) HS.out.lt
  have HS := Lib.hid (HS.out.below' hal)
  have F4 := Lib.hid (F4.out.below hal)
  have F5 := Lib.hid (F5.out.below hal)
  have F6 := Lib.hid (F6.out.below hal)
  have F7 := Lib.hid (F7.out.below hal)
  have F92 := Lib.hid (F92.out.below hal)
  have F94 := Lib.hid (F94.out.below hal)
  have F95 := Lib.hid (F95.out.below hal)
  have F97 := Lib.hid (F97.out.below hal)
  have F98 := Lib.hid hnew
  clear hal hnew
  go_wp2_with fail
  refine (powerK _ _ [2, 3] 3 6 F98.out.at_ (by omega) (by decide) rfl).mono ?_
  rintro e w5 ⟨A99, c99, rfl, ho, hb⟩
  have hnew := IntsB.own (base := w.heap.size + 1) ho (fits_lit (by decide)) HS.out.lt
  have HS := Lib.hid (HS.out.below' hb)
  have F4 := Lib.hid (F4.out.below hb)
  have F5 := Lib.hid (F5.out.below hb)
  have F6 := Lib.hid (F6.out.below hb)
  have F7 := Lib.hid (F7.out.below hb)
  have F92 := Lib.hid (F92.out.below hb)
  have F94 := Lib.hid (F94.out.below hb)
  have F95 := Lib.hid (F95.out.below hb)
  have F97 := Lib.hid (F97.out.below hb)
  have F98 := Lib.hid (F98.out.below hb)
  have F99 := Lib.hid hnew
  clear ho hb hnew
  have hal : Below (w5).heap.size (w5) ((w5).alloc (.cells (ints [1, 3]).toArray 3)) := (Below.refl _ _).alloc (Nat.le_refl _) _
  have hnew := IntsB.lit (base := w.heap.size + 1) (w5) [1, 3] (fits_lit (by decide)) (n := 2) rfl (by omega) HS.out.lt
  have HS := Lib.hid (HS.out.below' hal)
  have F4 := Lib.hid (F4.out.below hal)
  have F5 := Lib.hid (F5.out.below hal)
  have F6 := Lib.hid (F6.out.below hal)
  have F7 := Lib.hid (F7.out.below hal)
  have F92 := Lib.hid (F92.out.below hal)
  have F94 := Lib.hid (F94.out.below hal)
  have F95 := Lib.hid (F95.out.below hal)
  have F97 := Lib.hid (F97.out.below hal)
  have F98 := Lib.hid (F98.out.below hal)
  have F99 := Lib.hid (F99.out.below hal)
  have F100 := Lib.hid hnew
  clear hal hnew
  go_wp2_with fail
  refine (powerK _ _ [1, 3] 2 4 F100.out.at_ (by omega) (by decide) rfl).mono ?_
  rintro e w6 ⟨A101, c101, rfl, ho, hb⟩
  have hnew := IntsB.own (base := w.heap.size + 1) ho (fits_lit (by decide)) HS.out.lt
  have HS := Lib.hid (HS.out.below' hb)
  have F4 := Lib.hid (F4.out.below hb)
  have F5 := Lib.hid (F5.out.below hb)
  have F6 := Lib.hid (F6.out.below hb)
  have F7 := Lib.hid (F7.out.below hb)
  have F92 := Lib.hid (F92.out.below hb)
  have F94 := Lib.hid (F94.out.below hb)
  have F95 := Lib.hid (F95.out.below hb)
  have F97 := Lib.hid (F97.out.below hb)
  have F98 := Lib.hid (F98.out.below hb)
  have F99 := Lib.hid (F99.out.below hb)
  have F100 := Lib.hid (F100.out.below hb)
  have F101 := Lib.hid hnew
  clear ho hb hnew
  have hrow : ∀ i, i < 6 → IntsB (w.heap.size + 1) (w6) (([.slice A92 2 c92, .slice A94 2 c94, .slice (some ⟨w3.heap.size, 0, none⟩) 2 2, .slice A97 6 c97, .slice A99 6 c99, .slice A101 4 c101] : List Value).getD i undef) (([powW [1] 2, powW [2] 2, [3, 3], powW [1, 2] 3, powW [2, 3] 3, powW [1, 3] 2] : List W).getD i []) := fun i hi => by
    have : i = 0 ∨ i = 1 ∨ i = 2 ∨ i = 3 ∨ i = 4 ∨ i = 5 := by omega
    rcases this with rfl | rfl | rfl | rfl | rfl | rfl
    · exact F92.out
    · exact F94.out
    · exact F95.out
    · exact F97.out
    · exact F99.out
    · exact F101.out
  have hend := known_end HS.out (us := [.slice A92 2 c92, .slice A94 2 c94, .slice (some ⟨w3.heap.size, 0, none⟩) 2 2, .slice A97 6 c97, .slice A99 6 c99, .slice A101 4 c101]) (xs := [powW [1] 2, powW [2] 2, [3, 3], powW [1, 2] 3, powW [2, 3] 3, powW [1, 3] 2]) (n := 6) rfl rfl hrow (by omega) 3
  have HEND := Lib.hid hend
  clear hend hrow
  go_wp2_with ((with_reducible refine wpList_sel 103 ?_); refine wpList_val rfl (r_build40s _ (.tmp 102) 3 _ _ _ rfl rfl rfl) ?_; refine wpList_skip rfl (r_store40 (.tmp 2) (.tmp 103) rfl w.heap.size zero40 _ rfl rfl HEND.out.1 rfl rfl (one40 _ _ _ _)) ?_)
  try simp only [Exit.inBlock, Exit.then]
  refine bodyPost_ret (results_40_tmp (p := 2) (q := 3) rfl _ _ w.heap.size _ (.int .i64 24) rfl rfl (setRow_heap _ _ _ _ _ _ HEND.out.1) rfl) rfl ⟨⟨_, _, rfl, HEND.out.2.1⟩, HEND.out.2.2⟩
set_option maxRecDepth 100000 in
set_option maxHeartbeats 2000000 in
theorem known60_9 (w : World) (x : Int) (hx : x % 14 = 9) : Calls Try.prog 68 #[.int .i64 x] w (KnownPost 2 [powW [1] 2, powW [2] 3, powW [1, 2] 7, powW [-1, -2, 1, 2] 4] 168 w) := by
  have HT : Hid (∀ W, Calls Try.prog 67 #[.int .i64 x, .int .i64 14] W fun e w' => e = .returned (.int .i64 9) ∧ w' = W) := Lib.hid fun W => by
    have := turn59_any W x 14 (by omega)
    rwa [show ((14 : Nat) : Int) = 14 from rfl, hx] at this
  clear hx
  unfold KnownPost
  go_enter Try.func68, Try.ntmps68
  go_wp2_with ((with_reducible refine wpList_sel 2 ?_); refine wpList_val rfl (r_alloc40 rfl) ?_)
  refine (HT.out _).mono ?_
  rintro e w1 ⟨rfl, h0⟩
  obtain ⟨hS, f4, f5, f6, f7⟩ := known_start w w1 h0
  have HS := Lib.hid hS
  have F4 := Lib.hid f4
  have F5 := Lib.hid f5
  have F6 := Lib.hid f6
  have F7 := Lib.hid f7
  clear hS f4 f5 f6 f7 h0
  go_wp2_with fail
  refine (powerK _ _ [1] 2 2 F4.out.at_ (by omega) (by decide) rfl).mono ?_
  rintro e w2 ⟨A107, c107, rfl, ho, hb⟩
  have hnew := IntsB.own (base := w.heap.size + 1) ho (fits_lit (by decide)) HS.out.lt
  have HS := Lib.hid (HS.out.below' hb)
  have F4 := Lib.hid (F4.out.below hb)
  have F5 := Lib.hid (F5.out.below hb)
  have F6 := Lib.hid (F6.out.below hb)
  have F7 := Lib.hid (F7.out.below hb)
  have F107 := Lib.hid hnew
  clear ho hb hnew
  go_wp2_with fail
  refine (powerK _ _ [2] 3 3 F5.out.at_ (by omega) (by decide) rfl).mono ?_
  rintro e w3 ⟨A109, c109, rfl, ho, hb⟩
  have hnew := IntsB.own (base := w.heap.size + 1) ho (fits_lit (by decide)) HS.out.lt
  have HS := Lib.hid (HS.out.below' hb)
  have F4 := Lib.hid (F4.out.below hb)
  have F5 := Lib.hid (F5.out.below hb)
  have F6 := Lib.hid (F6.out.below hb)
  have F7 := Lib.hid (F7.out.below hb)
  have F107 := Lib.hid (F107.out.below hb)
  have F109 := Lib.hid hnew
  clear ho hb hnew
  go_wp2_with fail
  refine (powerK _ _ [1, 2] 7 14 F6.out.at_ (by omega) (by decide) rfl).mono ?_
  rintro e w4 ⟨A111, c111, rfl, ho, hb⟩
  have hnew := IntsB.own (base := w.heap.size + 1) ho (fits_lit (by decide)) HS.out.lt
  have HS := Lib.hid (HS.out.below' hb)
  have F4 := Lib.hid (F4.out.below hb)
  have F5 := Lib.hid (F5.out.below hb)
  have F6 := Lib.hid (F6.out.below hb)
  have F7 := Lib.hid (F7.out.below hb)
  have F107 := Lib.hid (F107.out.below hb)
  have F109 := Lib.hid (F109.out.below hb)
  have F111 := Lib.hid hnew
  clear ho hb hnew
  go_wp2_with fail
  refine (powerK _ _ [-1, -2, 1, 2] 4 16 F7.out.at_ (by omega) (by decide) rfl).mono ?_
  rintro e w5 ⟨A113, c113, rfl, ho, hb⟩
  have hnew := IntsB.own (base := w.heap.size + 1) ho (fits_lit (by decide)) HS.out.lt
  have HS := Lib.hid (HS.out.below' hb)
  have F4 := Lib.hid (F4.out.below hb)
  have F5 := Lib.hid (F5.out.below hb)
  have F6 := Lib.hid (F6.out.below hb)
  have F7 := Lib.hid (F7.out.below hb)
  have F107 := Lib.hid (F107.out.below hb)
  have F109 := Lib.hid (F109.out.below hb)
  have F111 := Lib.hid (F111.out.below hb)
  have F113 := Lib.hid hnew
  clear ho hb hnew
  have hrow : ∀ i, i < 4 → IntsB (w.heap.size + 1) (w5) (([.slice A107 2 c107, .slice A109 3 c109, .slice A111 14 c111, .slice A113 16 c113] : List Value).getD i undef) (([powW [1] 2, powW [2] 3, powW [1, 2] 7, powW [-1, -2, 1, 2] 4] : List W).getD i []) := fun i hi => by
    have : i = 0 ∨ i = 1 ∨ i = 2 ∨ i = 3 := by omega
    rcases this with rfl | rfl | rfl | rfl
    · exact F107.out
    · exact F109.out
    · exact F111.out
    · exact F113.out
  have hend := known_end HS.out (us := [.slice A107 2 c107, .slice A109 3 c109, .slice A111 14 c111, .slice A113 16 c113]) (xs := [powW [1] 2, powW [2] 3, powW [1, 2] 7, powW [-1, -2, 1, 2] 4]) (n := 4) rfl rfl hrow (by omega) 2
  have HEND := Lib.hid hend
  clear hend hrow
  go_wp2_with ((with_reducible refine wpList_sel 115 ?_); refine wpList_val rfl (r_build40s _ (.tmp 114) 2 _ _ _ rfl rfl rfl) ?_; refine wpList_skip rfl (r_store40 (.tmp 2) (.tmp 115) rfl w.heap.size zero40 _ rfl rfl HEND.out.1 rfl rfl (one40 _ _ _ _)) ?_)
  try simp only [Exit.inBlock, Exit.then]
  refine bodyPost_ret (results_40_tmp (p := 2) (q := 3) rfl _ _ w.heap.size _ (.int .i64 168) rfl rfl (setRow_heap _ _ _ _ _ _ HEND.out.1) rfl) rfl ⟨⟨_, _, rfl, HEND.out.2.1⟩, HEND.out.2.2⟩
set_option maxRecDepth 100000 in
set_option maxHeartbeats 2000000 in
theorem known60_10 (w : World) (x : Int) (hx : x % 14 = 10) : Calls Try.prog 68 #[.int .i64 x] w (KnownPost 2 [[-2, 1, 2, -1, -1], [-1, 2, 1, -2, -2]] 1 w) := by
  have HT : Hid (∀ W, Calls Try.prog 67 #[.int .i64 x, .int .i64 14] W fun e w' => e = .returned (.int .i64 10) ∧ w' = W) := Lib.hid fun W => by
    have := turn59_any W x 14 (by omega)
    rwa [show ((14 : Nat) : Int) = 14 from rfl, hx] at this
  clear hx
  unfold KnownPost
  go_enter Try.func68, Try.ntmps68
  go_wp2_with ((with_reducible refine wpList_sel 2 ?_); refine wpList_val rfl (r_alloc40 rfl) ?_)
  refine (HT.out _).mono ?_
  rintro e w1 ⟨rfl, h0⟩
  obtain ⟨hS, f4, f5, f6, f7⟩ := known_start w w1 h0
  have HS := Lib.hid hS
  have F4 := Lib.hid f4
  have F5 := Lib.hid f5
  have F6 := Lib.hid f6
  have F7 := Lib.hid f7
  clear hS f4 f5 f6 f7 h0
  have hal : Below (w1).heap.size (w1) ((w1).alloc (.cells (ints [-2, 1, 2, -1, -1]).toArray 3)) := (Below.refl _ _).alloc (Nat.le_refl _) _
  have hnew := IntsB.lit (base := w.heap.size + 1) (w1) [-2, 1, 2, -1, -1] (fits_lit (by decide)) (n := 5) rfl (by omega) HS.out.lt
  have HS := Lib.hid (HS.out.below' hal)
  have F4 := Lib.hid (F4.out.below hal)
  have F5 := Lib.hid (F5.out.below hal)
  have F6 := Lib.hid (F6.out.below hal)
  have F7 := Lib.hid (F7.out.below hal)
  have F118 := Lib.hid hnew
  clear hal hnew
  have hal : Below ((w1).alloc (.cells (ints [-2, 1, 2, -1, -1]).toArray 3)).heap.size ((w1).alloc (.cells (ints [-2, 1, 2, -1, -1]).toArray 3)) (((w1).alloc (.cells (ints [-2, 1, 2, -1, -1]).toArray 3)).alloc (.cells (ints [-1, 2, 1, -2, -2]).toArray 3)) := (Below.refl _ _).alloc (Nat.le_refl _) _
  have hnew := IntsB.lit (base := w.heap.size + 1) ((w1).alloc (.cells (ints [-2, 1, 2, -1, -1]).toArray 3)) [-1, 2, 1, -2, -2] (fits_lit (by decide)) (n := 5) rfl (by omega) HS.out.lt
  simp only [World.size_alloc] at hnew
  have HS := Lib.hid (HS.out.below' hal)
  have F4 := Lib.hid (F4.out.below hal)
  have F5 := Lib.hid (F5.out.below hal)
  have F6 := Lib.hid (F6.out.below hal)
  have F7 := Lib.hid (F7.out.below hal)
  have F118 := Lib.hid (F118.out.below hal)
  have F119 := Lib.hid hnew
  clear hal hnew
  have hrow : ∀ i, i < 2 → IntsB (w.heap.size + 1) (((w1).alloc (.cells (ints [-2, 1, 2, -1, -1]).toArray 3)).alloc (.cells (ints [-1, 2, 1, -2, -2]).toArray 3)) (([.slice (some ⟨w1.heap.size, 0, none⟩) 5 5, .slice (some ⟨w1.heap.size + 1, 0, none⟩) 5 5] : List Value).getD i undef) (([[-2, 1, 2, -1, -1], [-1, 2, 1, -2, -2]] : List W).getD i []) := fun i hi => by
    have : i = 0 ∨ i = 1 := by omega
    rcases this with rfl | rfl
    · exact F118.out
    · exact F119.out
  have hend := known_end HS.out (us := [.slice (some ⟨w1.heap.size, 0, none⟩) 5 5, .slice (some ⟨w1.heap.size + 1, 0, none⟩) 5 5]) (xs := [[-2, 1, 2, -1, -1], [-1, 2, 1, -2, -2]]) (n := 2) rfl rfl hrow (by omega) 2
  simp only [World.size_alloc] at hend
  have HEND := Lib.hid hend
  clear hend hrow
  go_wp2_with ((with_reducible refine wpList_sel 121 ?_); refine wpList_val rfl (r_build40s _ (.tmp 120) 2 _ _ _ rfl rfl rfl) ?_; refine wpList_skip rfl (r_store40 (.tmp 2) (.tmp 121) rfl w.heap.size zero40 _ rfl rfl HEND.out.1 rfl rfl (one40 _ _ _ _)) ?_)
  try simp only [Exit.inBlock, Exit.then]
  refine bodyPost_ret (results_40_tmp (p := 2) (q := 3) rfl _ _ w.heap.size _ (.int .i64 1) rfl rfl (setRow_heap _ _ _ _ _ _ HEND.out.1) rfl) rfl ⟨⟨_, _, rfl, HEND.out.2.1⟩, HEND.out.2.2⟩
set_option maxRecDepth 100000 in
set_option maxHeartbeats 2000000 in
theorem known60_11 (w : World) (x : Int) (hx : x % 14 = 11) : Calls Try.prog 68 #[.int .i64 x] w (KnownPost 3 [powW [1] 2, powW [2] 2, [3, 3], [-1, -2, 1, 2], [-1, -3, 1, 3], [-2, -3, 2, 3]] 8 w) := by
  have HT : Hid (∀ W, Calls Try.prog 67 #[.int .i64 x, .int .i64 14] W fun e w' => e = .returned (.int .i64 11) ∧ w' = W) := Lib.hid fun W => by
    have := turn59_any W x 14 (by omega)
    rwa [show ((14 : Nat) : Int) = 14 from rfl, hx] at this
  clear hx
  unfold KnownPost
  go_enter Try.func68, Try.ntmps68
  go_wp2_with ((with_reducible refine wpList_sel 2 ?_); refine wpList_val rfl (r_alloc40 rfl) ?_)
  refine (HT.out _).mono ?_
  rintro e w1 ⟨rfl, h0⟩
  obtain ⟨hS, f4, f5, f6, f7⟩ := known_start w w1 h0
  have HS := Lib.hid hS
  have F4 := Lib.hid f4
  have F5 := Lib.hid f5
  have F6 := Lib.hid f6
  have F7 := Lib.hid f7
  clear hS f4 f5 f6 f7 h0
  go_wp2_with fail
  refine (powerK _ _ [1] 2 2 F4.out.at_ (by omega) (by decide) rfl).mono ?_
  rintro e w2 ⟨A125, c125, rfl, ho, hb⟩
  have hnew := IntsB.own (base := w.heap.size + 1) ho (fits_lit (by decide)) HS.out.lt
  have HS := Lib.hid (HS.out.below' hb)
  have F4 := Lib.hid (F4.out.below hb)
  have F5 := Lib.hid (F5.out.below hb)
  have F6 := Lib.hid (F6.out.below hb)
  have F7 := Lib.hid (F7.out.below hb)
  have F125 := Lib.hid hnew
  clear ho hb hnew
  go_wp2_with fail
  refine (powerK _ _ [2] 2 2 F5.out.at_ (by omega) (by decide) rfl).mono ?_
  rintro e w3 ⟨A127, c127, rfl, ho, hb⟩
  have hnew := IntsB.own (base := w.heap.size + 1) ho (fits_lit (by decide)) HS.out.lt
  have HS := Lib.hid (HS.out.below' hb)
  have F4 := Lib.hid (F4.out.below hb)
  have F5 := Lib.hid (F5.out.below hb)
  have F6 := Lib.hid (F6.out.below hb)
  have F7 := Lib.hid (F7.out.below hb)
  have F125 := Lib.hid (F125.out.below hb)
  have F127 := Lib.hid hnew
  clear ho hb hnew
  have hal : Below (w3).heap.size (w3) ((w3).alloc (.cells (ints [3, 3]).toArray 3)) := (Below.refl _ _).alloc (Nat.le_refl _) _
  have hnew := IntsB.lit (base := w.heap.size + 1) (w3) [3, 3] (fits_lit (by decide)) (n := 2) rfl (by omega) HS.out.lt
  have HS := Lib.hid (HS.out.below' hal)
  have F4 := Lib.hid (F4.out.below hal)
  have F5 := Lib.hid (F5.out.below hal)
  have F6 := Lib.hid (F6.out.below hal)
  have F7 := Lib.hid (F7.out.below hal)
  have F125 := Lib.hid (F125.out.below hal)
  have F127 := Lib.hid (F127.out.below hal)
  have F128 := Lib.hid hnew
  clear hal hnew
  have hal : Below ((w3).alloc (.cells (ints [3, 3]).toArray 3)).heap.size ((w3).alloc (.cells (ints [3, 3]).toArray 3)) (((w3).alloc (.cells (ints [3, 3]).toArray 3)).alloc (.cells (ints [-1, -3, 1, 3]).toArray 3)) := (Below.refl _ _).alloc (Nat.le_refl _) _
  have hnew := IntsB.lit (base := w.heap.size + 1) ((w3).alloc (.cells (ints [3, 3]).toArray 3)) [-1, -3, 1, 3] (fits_lit (by decide)) (n := 4) rfl (by omega) HS.out.lt
  simp only [World.size_alloc] at hnew
  have HS := Lib.hid (HS.out.below' hal)
  have F4 := Lib.hid (F4.out.below hal)
  have F5 := Lib.hid (F5.out.below hal)
  have F6 := Lib.hid (F6.out.below hal)
  have F7 := Lib.hid (F7.out.below hal)
  have F125 := Lib.hid (F125.out.below hal)
  have F127 := Lib.hid (F127.out.below hal)
  have F128 := Lib.hid (F128.out.below hal)
  have F130 := Lib.hid hnew
  clear hal hnew
  have hal : Below (((w3).alloc (.cells (ints [3, 3]).toArray 3)).alloc (.cells (ints [-1, -3, 1, 3]).toArray 3)).heap.size (((w3).alloc (.cells (ints [3, 3]).toArray 3)).alloc (.cells (ints [-1, -3, 1, 3]).toArray 3)) ((((w3).alloc (.cells (ints [3, 3]).toArray 3)).alloc (.cells (ints [-1, -3, 1, 3]).toArray 3)).alloc (.cells (ints [-2, -3, 2, 3]).toArray 3)) := (Below.refl _ _).alloc (Nat.le_refl _) _
  have hnew := IntsB.lit (base := w.heap.size + 1) (((w3).alloc (.cells (ints [3, 3]).toArray 3)).alloc (.cells (ints [-1, -3, 1, 3]).toArray 3)) [-2, -3, 2, 3] (fits_lit (by decide)) (n := 4) rfl (by omega) HS.out.lt
  simp only [World.size_alloc] at hnew
  have HS := Lib.hid (HS.out.below' hal)
  have F4 := Lib.hid (F4.out.below hal)
  have F5 := Lib.hid (F5.out.below hal)
  have F6 := Lib.hid (F6.out.below hal)
  have F7 := Lib.hid (F7.out.below hal)
  have F125 := Lib.hid (F125.out.below hal)
  have F127 := Lib.hid (F127.out.below hal)
  have F128 := Lib.hid (F128.out.below hal)
  have F130 := Lib.hid (F130.out.below hal)
  have F131 := Lib.hid hnew
  clear hal hnew
  have hrow : ∀ i, i < 6 → IntsB (w.heap.size + 1) ((((w3).alloc (.cells (ints [3, 3]).toArray 3)).alloc (.cells (ints [-1, -3, 1, 3]).toArray 3)).alloc (.cells (ints [-2, -3, 2, 3]).toArray 3)) (([.slice A125 2 c125, .slice A127 2 c127, .slice (some ⟨w3.heap.size, 0, none⟩) 2 2, .slice (some ⟨w.heap.size + 1 + 1 + 1 + 1, 0, none⟩) 4 4, .slice (some ⟨w3.heap.size + 1, 0, none⟩) 4 4, .slice (some ⟨w3.heap.size + 1 + 1, 0, none⟩) 4 4] : List Value).getD i undef) (([powW [1] 2, powW [2] 2, [3, 3], [-1, -2, 1, 2], [-1, -3, 1, 3], [-2, -3, 2, 3]] : List W).getD i []) := fun i hi => by
    have : i = 0 ∨ i = 1 ∨ i = 2 ∨ i = 3 ∨ i = 4 ∨ i = 5 := by omega
    rcases this with rfl | rfl | rfl | rfl | rfl | rfl
    · exact F125.out
    · exact F127.out
    · exact F128.out
    · exact F7.out
    · exact F130.out
    · exact F131.out
  have hend := known_end HS.out (us := [.slice A125 2 c125, .slice A127 2 c127, .slice (some ⟨w3.heap.size, 0, none⟩) 2 2, .slice (some ⟨w.heap.size + 1 + 1 + 1 + 1, 0, none⟩) 4 4, .slice (some ⟨w3.heap.size + 1, 0, none⟩) 4 4, .slice (some ⟨w3.heap.size + 1 + 1, 0, none⟩) 4 4]) (xs := [powW [1] 2, powW [2] 2, [3, 3], [-1, -2, 1, 2], [-1, -3, 1, 3], [-2, -3, 2, 3]]) (n := 6) rfl rfl hrow (by omega) 3
  simp only [World.size_alloc] at hend
  have HEND := Lib.hid hend
  clear hend hrow
  go_wp2_with ((with_reducible refine wpList_sel 133 ?_); refine wpList_val rfl (r_build40s _ (.tmp 132) 3 _ _ _ rfl rfl rfl) ?_; refine wpList_skip rfl (r_store40 (.tmp 2) (.tmp 133) rfl w.heap.size zero40 _ rfl rfl HEND.out.1 rfl rfl (one40 _ _ _ _)) ?_)
  try simp only [Exit.inBlock, Exit.then]
  refine bodyPost_ret (results_40_tmp (p := 2) (q := 3) rfl _ _ w.heap.size _ (.int .i64 8) rfl rfl (setRow_heap _ _ _ _ _ _ HEND.out.1) rfl) rfl ⟨⟨_, _, rfl, HEND.out.2.1⟩, HEND.out.2.2⟩
set_option maxRecDepth 100000 in
set_option maxHeartbeats 2000000 in
theorem known60_12 (w : World) (x : Int) (hx : x % 14 = 12) : Calls Try.prog 68 #[.int .i64 x] w (KnownPost 2 [powW [1] 5, powW [2] 4, [-2, 1, 2, -1, -1]] 20 w) := by
  have HT : Hid (∀ W, Calls Try.prog 67 #[.int .i64 x, .int .i64 14] W fun e w' => e = .returned (.int .i64 12) ∧ w' = W) := Lib.hid fun W => by
    have := turn59_any W x 14 (by omega)
    rwa [show ((14 : Nat) : Int) = 14 from rfl, hx] at this
  clear hx
  unfold KnownPost
  go_enter Try.func68, Try.ntmps68
  go_wp2_with ((with_reducible refine wpList_sel 2 ?_); refine wpList_val rfl (r_alloc40 rfl) ?_)
  refine (HT.out _).mono ?_
  rintro e w1 ⟨rfl, h0⟩
  obtain ⟨hS, f4, f5, f6, f7⟩ := known_start w w1 h0
  have HS := Lib.hid hS
  have F4 := Lib.hid f4
  have F5 := Lib.hid f5
  have F6 := Lib.hid f6
  have F7 := Lib.hid f7
  clear hS f4 f5 f6 f7 h0
  go_wp2_with fail
  refine (powerK _ _ [1] 5 5 F4.out.at_ (by omega) (by decide) rfl).mono ?_
  rintro e w2 ⟨A137, c137, rfl, ho, hb⟩
  have hnew := IntsB.own (base := w.heap.size + 1) ho (fits_lit (by decide)) HS.out.lt
  have HS := Lib.hid (HS.out.below' hb)
  have F4 := Lib.hid (F4.out.below hb)
  have F5 := Lib.hid (F5.out.below hb)
  have F6 := Lib.hid (F6.out.below hb)
  have F7 := Lib.hid (F7.out.below hb)
  have F137 := Lib.hid hnew
  clear ho hb hnew
  go_wp2_with fail
  refine (powerK _ _ [2] 4 4 F5.out.at_ (by omega) (by decide) rfl).mono ?_
  rintro e w3 ⟨A139, c139, rfl, ho, hb⟩
  have hnew := IntsB.own (base := w.heap.size + 1) ho (fits_lit (by decide)) HS.out.lt
  have HS := Lib.hid (HS.out.below' hb)
  have F4 := Lib.hid (F4.out.below hb)
  have F5 := Lib.hid (F5.out.below hb)
  have F6 := Lib.hid (F6.out.below hb)
  have F7 := Lib.hid (F7.out.below hb)
  have F137 := Lib.hid (F137.out.below hb)
  have F139 := Lib.hid hnew
  clear ho hb hnew
  have hal : Below (w3).heap.size (w3) ((w3).alloc (.cells (ints [-2, 1, 2, -1, -1]).toArray 3)) := (Below.refl _ _).alloc (Nat.le_refl _) _
  have hnew := IntsB.lit (base := w.heap.size + 1) (w3) [-2, 1, 2, -1, -1] (fits_lit (by decide)) (n := 5) rfl (by omega) HS.out.lt
  have HS := Lib.hid (HS.out.below' hal)
  have F4 := Lib.hid (F4.out.below hal)
  have F5 := Lib.hid (F5.out.below hal)
  have F6 := Lib.hid (F6.out.below hal)
  have F7 := Lib.hid (F7.out.below hal)
  have F137 := Lib.hid (F137.out.below hal)
  have F139 := Lib.hid (F139.out.below hal)
  have F140 := Lib.hid hnew
  clear hal hnew
  have hrow : ∀ i, i < 3 → IntsB (w.heap.size + 1) ((w3).alloc (.cells (ints [-2, 1, 2, -1, -1]).toArray 3)) (([.slice A137 5 c137, .slice A139 4 c139, .slice (some ⟨w3.heap.size, 0, none⟩) 5 5] : List Value).getD i undef) (([powW [1] 5, powW [2] 4, [-2, 1, 2, -1, -1]] : List W).getD i []) := fun i hi => by
    have : i = 0 ∨ i = 1 ∨ i = 2 := by omega
    rcases this with rfl | rfl | rfl
    · exact F137.out
    · exact F139.out
    · exact F140.out
  have hend := known_end HS.out (us := [.slice A137 5 c137, .slice A139 4 c139, .slice (some ⟨w3.heap.size, 0, none⟩) 5 5]) (xs := [powW [1] 5, powW [2] 4, [-2, 1, 2, -1, -1]]) (n := 3) rfl rfl hrow (by omega) 2
  simp only [World.size_alloc] at hend
  have HEND := Lib.hid hend
  clear hend hrow
  go_wp2_with ((with_reducible refine wpList_sel 142 ?_); refine wpList_val rfl (r_build40s _ (.tmp 141) 2 _ _ _ rfl rfl rfl) ?_; refine wpList_skip rfl (r_store40 (.tmp 2) (.tmp 142) rfl w.heap.size zero40 _ rfl rfl HEND.out.1 rfl rfl (one40 _ _ _ _)) ?_)
  try simp only [Exit.inBlock, Exit.then]
  refine bodyPost_ret (results_40_tmp (p := 2) (q := 3) rfl _ _ w.heap.size _ (.int .i64 20) rfl rfl (setRow_heap _ _ _ _ _ _ HEND.out.1) rfl) rfl ⟨⟨_, _, rfl, HEND.out.2.1⟩, HEND.out.2.2⟩
set_option maxRecDepth 100000 in
set_option maxHeartbeats 2000000 in
theorem known60_13 (w : World) (x : Int) (hx : x % 14 = 13) : Calls Try.prog 68 #[.int .i64 x] w (KnownPost 2 [powW [1] 7, powW [2] 3, [-2, 1, 2, -1, -1]] 21 w) := by
  have HT : Hid (∀ W, Calls Try.prog 67 #[.int .i64 x, .int .i64 14] W fun e w' => e = .returned (.int .i64 13) ∧ w' = W) := Lib.hid fun W => by
    have := turn59_any W x 14 (by omega)
    rwa [show ((14 : Nat) : Int) = 14 from rfl, hx] at this
  clear hx
  unfold KnownPost
  go_enter Try.func68, Try.ntmps68
  go_wp2_with ((with_reducible refine wpList_sel 2 ?_); refine wpList_val rfl (r_alloc40 rfl) ?_)
  refine (HT.out _).mono ?_
  rintro e w1 ⟨rfl, h0⟩
  obtain ⟨hS, f4, f5, f6, f7⟩ := known_start w w1 h0
  have HS := Lib.hid hS
  have F4 := Lib.hid f4
  have F5 := Lib.hid f5
  have F6 := Lib.hid f6
  have F7 := Lib.hid f7
  clear hS f4 f5 f6 f7 h0
  go_wp2_with fail
  refine (powerK _ _ [1] 7 7 F4.out.at_ (by omega) (by decide) rfl).mono ?_
  rintro e w2 ⟨A144, c144, rfl, ho, hb⟩
  have hnew := IntsB.own (base := w.heap.size + 1) ho (fits_lit (by decide)) HS.out.lt
  have HS := Lib.hid (HS.out.below' hb)
  have F4 := Lib.hid (F4.out.below hb)
  have F5 := Lib.hid (F5.out.below hb)
  have F6 := Lib.hid (F6.out.below hb)
  have F7 := Lib.hid (F7.out.below hb)
  have F144 := Lib.hid hnew
  clear ho hb hnew
  go_wp2_with fail
  refine (powerK _ _ [2] 3 3 F5.out.at_ (by omega) (by decide) rfl).mono ?_
  rintro e w3 ⟨A146, c146, rfl, ho, hb⟩
  have hnew := IntsB.own (base := w.heap.size + 1) ho (fits_lit (by decide)) HS.out.lt
  have HS := Lib.hid (HS.out.below' hb)
  have F4 := Lib.hid (F4.out.below hb)
  have F5 := Lib.hid (F5.out.below hb)
  have F6 := Lib.hid (F6.out.below hb)
  have F7 := Lib.hid (F7.out.below hb)
  have F144 := Lib.hid (F144.out.below hb)
  have F146 := Lib.hid hnew
  clear ho hb hnew
  have hal : Below (w3).heap.size (w3) ((w3).alloc (.cells (ints [-2, 1, 2, -1, -1]).toArray 3)) := (Below.refl _ _).alloc (Nat.le_refl _) _
  have hnew := IntsB.lit (base := w.heap.size + 1) (w3) [-2, 1, 2, -1, -1] (fits_lit (by decide)) (n := 5) rfl (by omega) HS.out.lt
  have HS := Lib.hid (HS.out.below' hal)
  have F4 := Lib.hid (F4.out.below hal)
  have F5 := Lib.hid (F5.out.below hal)
  have F6 := Lib.hid (F6.out.below hal)
  have F7 := Lib.hid (F7.out.below hal)
  have F144 := Lib.hid (F144.out.below hal)
  have F146 := Lib.hid (F146.out.below hal)
  have F147 := Lib.hid hnew
  clear hal hnew
  have hrow : ∀ i, i < 3 → IntsB (w.heap.size + 1) ((w3).alloc (.cells (ints [-2, 1, 2, -1, -1]).toArray 3)) (([.slice A144 7 c144, .slice A146 3 c146, .slice (some ⟨w3.heap.size, 0, none⟩) 5 5] : List Value).getD i undef) (([powW [1] 7, powW [2] 3, [-2, 1, 2, -1, -1]] : List W).getD i []) := fun i hi => by
    have : i = 0 ∨ i = 1 ∨ i = 2 := by omega
    rcases this with rfl | rfl | rfl
    · exact F144.out
    · exact F146.out
    · exact F147.out
  have hend := known_end HS.out (us := [.slice A144 7 c144, .slice A146 3 c146, .slice (some ⟨w3.heap.size, 0, none⟩) 5 5]) (xs := [powW [1] 7, powW [2] 3, [-2, 1, 2, -1, -1]]) (n := 3) rfl rfl hrow (by omega) 2
  simp only [World.size_alloc] at hend
  have HEND := Lib.hid hend
  clear hend hrow
  go_wp2_with ((with_reducible refine wpList_sel 149 ?_); refine wpList_val rfl (r_build40s _ (.tmp 148) 2 _ _ _ rfl rfl rfl) ?_; refine wpList_skip rfl (r_store40 (.tmp 2) (.tmp 149) rfl w.heap.size zero40 _ rfl rfl HEND.out.1 rfl rfl (one40 _ _ _ _)) ?_)
  try simp only [Exit.inBlock, Exit.then]
  refine bodyPost_ret (results_40_tmp (p := 2) (q := 3) rfl _ _ w.heap.size _ (.int .i64 21) rfl rfl (setRow_heap _ _ _ _ _ _ HEND.out.1) rfl) rfl ⟨⟨_, _, rfl, HEND.out.2.1⟩, HEND.out.2.2⟩
end Go.Proofs
namespace Go.Proofs
open Go.RowKit Go.Shelf Go.Proofs.Ct Go.Maps
def knownE (x : Int) : Int × List W × Int := knownT (x % 14).toNat
theorem known60_any (w : World) (x : Int) : Calls Try.prog 68 #[.int .i64 x] w (KnownPost (knownE x).1 (knownE x).2.1 (knownE x).2.2 w) := by
  have h1 := Int.emod_nonneg x (show (14 : Int) ≠ 0 by omega)
  have h2 := Int.emod_lt_of_pos x (show (0 : Int) < 14 by omega)
  unfold knownE
  have : x % 14 = 0 ∨ x % 14 = 1 ∨ x % 14 = 2 ∨ x % 14 = 3 ∨ x % 14 = 4 ∨ x % 14 = 5 ∨ x % 14 = 6 ∨ x % 14 = 7 ∨ x % 14 = 8 ∨ x % 14 = 9 ∨ x % 14 = 10 ∨ x % 14 = 11 ∨ x % 14 = 12 ∨ x % 14 = 13 := by omega
  rcases this with h | h | h | h | h | h | h | h | h | h | h | h | h | h
  · rw [h]; exact known60_0 w x h
  · rw [h]; exact known60_1 w x h
  · rw [h]; exact known60_2 w x h
  · rw [h]; exact known60_3 w x h
  · rw [h]; exact known60_4 w x h
  · rw [h]; exact known60_5 w x h
  · rw [h]; exact known60_6 w x h
  · rw [h]; exact known60_7 w x h
  · rw [h]; exact known60_8 w x h
  · rw [h]; exact known60_9 w x h
  · rw [h]; exact known60_10 w x h
  · rw [h]; exact known60_11 w x h
  · rw [h]; exact known60_12 w x h
  · rw [h]; exact known60_13 w x h
end Go.Proofs
namespace Go.Proofs
open Go.RowKit Go.Shelf Go.Proofs.Ct Go.Maps
def givenP (m : Nat) (which : Int) (l : List Int) : Int × List W :=
  if which.tmod 2 = 0 then ((knownE (which.tdiv 2)).1, (knownE (which.tdiv 2)).2.1) else (1 + which.tdiv 2 % 3, lawWords (1 + which.tdiv 2 % 3).toNat m l)
def GivenPost (P : Int × List W) (w : World) (e : Ending) (w' : World) : Prop := (∃ A c, e = .returned (.agg #[.int .i64 P.1, .slice A P.2.length c]) ∧ Tab w' (.slice A P.2.length c) P.2) ∧ Below w.heap.size w w'
end Go.Proofs
namespace Go.Proofs.Ct
def gt (a k : Nat) : Nat := Nat.mod (Nat.shiftRight a (Nat.mul 10 k)) 1024
def pt (a k v : Nat) : Nat := Nat.add a (Nat.shiftLeft v (Nat.mul 10 k))
structure Cs where
  n : Nat
  E : Nat
  A : Nat
def rpC (A : Nat) : Nat → Nat → Nat
  | 0, x => x
  | k + 1, x => match gt A x with
    | 0 => x
    | y + 1 => rpC A k y
def lkC (s : Cs) (x c : Nat) : Nat := match gt s.E (Nat.add (Nat.mul 8 x) c) with
  | 0 => 0
  | y + 1 => Nat.succ (rpC s.A 20 y)
def wkC (s : Cs) : List Nat → Nat → Nat
  | [], x => Nat.succ x
  | c :: w, x => match lkC s x c with
    | 0 => 0
    | y + 1 => wkC s w y
def alC (s : Cs) (a b : Nat) : Cs := cond (Nat.beq (gt s.A b) 0 && Nat.blt a s.n && Nat.blt b s.n) ⟨s.n, s.E, pt s.A b (Nat.succ a)⟩ s
def algC (s : Cs) (a b : Nat) : Cs := cond (Nat.beq a b) s (cond (Nat.blt a b) (alC s a b) (alC s b a))
def haC (s : Cs) (u c v : Nat) : Cs := match lkC s u c with
  | y + 1 => algC s y v
  | 0 => ⟨s.n, pt s.E (Nat.add (Nat.mul 8 u) c) (Nat.succ v), s.A⟩
def lnC (s : Cs) (u c v : Nat) : Cs := haC (haC s u c v) v (flp c) u
def dfC (m : Nat) (s : Cs) (r c : Nat) : Cs := match lkC s r c with
  | 0 => cond (Nat.blt r s.n && Nat.blt c m && Nat.blt s.n 1000) (lnC ⟨Nat.succ s.n, s.E, s.A⟩ r c s.n) s
  | _ + 1 => s
def bkC (w : List Nat) : List Nat := (w.map flp).reverse
def reC (rs : List (List Nat)) (s : Cs) (r k i : Nat) : Cs := cond (Nat.blt r s.n && Nat.blt k rs.length && Nat.blt i (rs.getD k []).length)
  (match wkC s ((rs.getD k []).take i) r with
  | 0 => s
  | u + 1 => match wkC s (bkC ((rs.getD k []).drop (i + 1))) r with
    | 0 => s
    | v + 1 => lnC s u ((rs.getD k []).getD i 0) v) s
def cpC (s : Cs) (x c : Nat) : Cs := match gt s.E (Nat.add (Nat.mul 8 x) c) with
  | 0 => s
  | d + 1 => cond (Nat.blt c 8) (lnC s (rpC s.A 20 x) c (rpC s.A 20 d)) s
def stC (m : Nat) (rs : List (List Nat)) (i : Nat) (s : Cs) : Cs := match Nat.mod i 4 with
  | 0 => dfC m s (Nat.div i 32) (Nat.mod (Nat.div i 4) 8)
  | 1 => reC rs s (Nat.div i 1024) (Nat.mod (Nat.div i 128) 8) (Nat.mod (Nat.div i 4) 32)
  | _ => cpC s (Nat.div i 32) (Nat.mod (Nat.div i 4) 8)
def runC (m : Nat) (rs : List (List Nat)) : Nat → Nat → Cs → Cs
  | 0, _, s => s
  | k + 1, log, s => runC m rs k (Nat.shiftRight log 20) (stC m rs (Nat.mod log 1048576) s)
structure OkC (g : Nat) {α : Type} (D : α → Prop) (act : α → Nat → α) (p0 : α) (s : Cs) (f : Nat → α) : Prop where
  n1 : 1 ≤ s.n
  n2 : s.n ≤ 1000
  f0 : f 0 = p0
  dom : ∀ x, x < s.n → D (f x)
  e : ∀ x c y, c < 8 → gt s.E (8 * x + c) = y + 1 → x < s.n ∧ y < s.n ∧ c < 2 * g ∧ act (f x) c = f y
  a : ∀ x y, gt s.A x = y + 1 → x < s.n ∧ y < s.n ∧ f x = f y
section
variable {g : Nat} {rels : List W} {α : Type} {D : α → Prop} {act : α → Nat → α} {p0 : α} {s : Cs} {f : Nat → α}
end
def Reg (g : Nat) (rels : List W) (n : Nat) : Prop := ∃ act : Nat → Nat → Nat, 1 ≤ n ∧ n ≤ 1000 ∧ Mdl g rels (fun x => x < n) act ∧ (∀ i, 0 < i → i < n → ∃ p c, p < i ∧ c < 2 * g ∧ act p c = i) ∧
  ∀ {α : Type} {D : α → Prop} {act' : α → Nat → α} {p0 : α}, Mdl g rels D act' → D p0 → ∃ φ : Nat → α, φ 0 = p0 ∧ (∀ x, x < n → D (φ x)) ∧ ∀ x c, x < n → c < 2 * g → φ (act x c) = act' (φ x) c
end Go.Proofs.Ct
namespace Go.Proofs
open Go.RowKit Go.Shelf Go.Proofs.Ct Go.Maps
theorem letBad_ok {g : Nat} {w : W} (h : LOk g w) : w.any (letBad g) = false := by
  rw [List.any_eq_false]
  intro x hx
  have := h x hx
  unfold letBad
  simp
  omega
theorem sumTo_short {l : List W} {m : Nat} (h : ∀ j, (l.getD j []).length ≤ m) : ∀ k, sumTo l k ≤ k * m
  | 0 => by simp [sumTo, foldTo]
  | k + 1 => by
    have := sumTo_short h k
    have := h k
    show sumTo l k + (l.getD k []).length ≤ (k + 1) * m
    rw [Nat.add_mul]
    omega
structure Wds (g : Nat) (l : List W) (n m : Nat) : Prop where
  len : l.length ≤ n
  short : ∀ j, (l.getD j []).length ≤ m
  ok : ∀ j, j < l.length → LOk g (l.getD j [])
theorem Wds.pres {g n m : Nat} {l : List W} (h : Wds g l n m) (hg : 1 ≤ g ∧ g ≤ 16) (hn : n ≤ 100) (hnm : n * m ≤ 4000) : presE g l = 0 := by
  refine presE_none hg (Nat.le_trans h.len hn) fun j hj => ?_
  unfold presBad
  have h1 := sumTo_short h.short (j + 1)
  have h2 : (j + 1) * m ≤ n * m := Nat.mul_le_mul_right _ (by have := h.len; omega)
  rw [if_neg (by omega), if_neg (by rw [letBad_ok (h.ok j hj)]; simp)]
theorem Wds.good {g n m : Nat} {l : List W} (h : Wds g l n m) (hn : n ≤ 100) (hnm : n * m ≤ 4000) {lim : Nat} (hl : 1 ≤ lim ∧ lim ≤ 20000) : badArgs g l (lim : Int) = false := by
  have h1 := sumTo_short h.short l.length
  have h2 : l.length * m ≤ n * m := Nat.mul_le_mul_right _ h.len
  have h3 := h.len
  have h4 : (l.any fun w => w.any (letBad g)) = false := by
    rw [List.any_eq_false]
    intro w hw
    obtain ⟨j, hj, rfl⟩ := List.mem_iff_getElem.1 hw
    have := h.ok j hj
    rw [List.getD_eq_getElem?_getD, List.getElem?_eq_getElem hj] at this
    have h5 := letBad_ok this
    simp only [Option.getD_some] at h5
    rw [h5]; simp
  unfold badArgs
  rw [h4]
  simp only [Bool.or_false, Bool.or_eq_false_iff, decide_eq_false_iff_not]
  omega
theorem mem_wordsTo {g most : Nat} (hg : 1 ≤ g) : ∀ (f : Nat) (l : List Int), ∀ w ∈ wordsTo g most f l, w.length ≤ most ∧ LOk g w
  | 0, _, w, h => by simp [wordsTo] at h
  | _ + 1, [], w, h => by simp [wordsTo] at h
  | f + 1, x :: l, w, h => by
    rw [wordsTo] at h
    rcases List.mem_cons.1 h with rfl | h
    · refine ⟨?_, fun y hy => ?_⟩
      · rw [length_wordOf, List.length_take]
        have := Int.emod_lt_of_pos x (show (0 : Int) < ((most + 1 : Nat) : Int) by omega)
        have := Int.emod_nonneg x (show ((most + 1 : Nat) : Int) ≠ 0 by omega)
        omega
      · unfold wordOf at hy
        obtain ⟨z, -, rfl⟩ := List.mem_map.1 hy
        have h1 := Int.emod_lt_of_pos z (show (0 : Int) < ((2 * g : Nat) : Int) by omega)
        have h2 := Int.emod_nonneg z (show ((2 * g : Nat) : Int) ≠ 0 by omega)
        exact letter_range (by omega)
    · exact mem_wordsTo hg f _ w h
theorem wds_of_mem {g n m : Nat} {l : List W} (hn : l.length ≤ n) (h : ∀ w ∈ l, w.length ≤ m ∧ LOk g w) : Wds g l n m := by
  refine ⟨hn, fun j => ?_, fun j hj => ?_⟩
  · rw [List.getD_eq_getElem?_getD]
    rcases Nat.lt_or_ge j l.length with hj | hj
    · rw [List.getElem?_eq_getElem hj]; exact (h _ (List.getElem_mem hj)).1
    · rw [List.getElem?_eq_none hj]; exact Nat.zero_le _
  · rw [List.getD_eq_getElem?_getD, List.getElem?_eq_getElem hj]
    exact (h _ (List.getElem_mem hj)).2
theorem wds_law {g : Nat} (hg : 1 ≤ g) (m : Nat) (l : List Int) : Wds g (lawWords g m l) m 12 := wds_of_mem (by unfold lawWords; rw [List.length_take]; omega) fun w hw => mem_wordsTo hg _ _ w (List.mem_of_mem_take hw)
def knownB (i : Nat) : Bool := decide (1 ≤ (knownT i).1 ∧ (knownT i).1 ≤ 3) && decide ((knownT i).2.1.length ≤ 6) && ((knownT i).2.1.all fun w => decide (w.length ≤ 60) && w.all fun x => decide (-(knownT i).1 ≤ x) && decide (x ≤ (knownT i).1) && decide (x ≠ 0))
theorem known_wds {i : Nat} (h : knownB i = true) : ∃ g : Nat, (knownT i).1 = (g : Int) ∧ 1 ≤ g ∧ g ≤ 3 ∧ Wds g (knownT i).2.1 6 60 := by
  unfold knownB at h
  simp only [Bool.and_eq_true, decide_eq_true_eq] at h
  obtain ⟨⟨⟨h1, h2⟩, h3⟩, h4⟩ := h
  refine ⟨(knownT i).1.toNat, by omega, by omega, by omega, wds_of_mem h3 fun w hw => ?_⟩
  have h5 := List.all_eq_true.1 h4 w hw
  simp only [Bool.and_eq_true, decide_eq_true_eq] at h5
  refine ⟨h5.1, fun x hx => ?_⟩
  have h6 := List.all_eq_true.1 h5.2 x hx
  simp only [Bool.and_eq_true, decide_eq_true_eq] at h6
  omega
theorem known_all : ∀ i, i < 14 → knownB i = true := by decide +kernel
theorem mod14 (x : Int) : (x % 14).toNat < 14 := by
  have h1 := Int.emod_nonneg x (show (14 : Int) ≠ 0 by omega)
  have h2 := Int.emod_lt_of_pos x (show (0 : Int) < 14 by omega)
  omega
theorem given_wds (m : Nat) (hm : m ≤ 6) (which : Int) (l : List Int) : ∃ g : Nat, (givenP m which l).1 = (g : Int) ∧ 1 ≤ g ∧ g ≤ 3 ∧ Wds g (givenP m which l).2 6 60 := by
  unfold givenP
  split
  · exact known_wds (known_all _ (mod14 _))
  · have h1 := Int.emod_nonneg (which.tdiv 2) (show (3 : Int) ≠ 0 by omega)
    have h2 := Int.emod_lt_of_pos (which.tdiv 2) (show (0 : Int) < 3 by omega)
    refine ⟨(1 + which.tdiv 2 % 3).toNat, by show (1 + which.tdiv 2 % 3) = _; omega, by omega, by omega, ?_⟩
    have := wds_law (g := (1 + which.tdiv 2 % 3).toNat) (by omega) m l
    exact ⟨Nat.le_trans this.len hm, fun j => Nat.le_trans (this.short j) (by omega), this.ok⟩
section
variable {g n m n' m' lim : Nat} {rels sub : List W}
end
end Go.Proofs
namespace Go.Proofs
open Go.RowKit Go.Shelf Go.Proofs.Ct Go.Maps
theorem eql49g (a b c : Int) (w : World) : (binOp .eql 49 (.agg #[.int .i64 a, .int .i64 b, .int .i64 c]) (.agg #[.int .i64 a, .int .i64 b, .int .i64 c])).run Try.prog w = .ok (.bool true) w := by
  simp [go_sem]
end Go.Proofs
namespace Go.Proofs
open Go.RowKit Go.Shelf Go.Proofs.Ct Go.Maps
section
variable {o : Oper} {a : Act} {w w' : World} {n : Nat} {v : Value} {ops : Array Oper}
theorem r_call1 {f : FuncId} (x : Operand) (u : Value) (T : Array TypeId) (ho : o.op = .call { callee := .value (.func f), args := #[x], argTypes := T }) (hx : a.eval x = u)
    (he : ∀ args w, (callFunc f args).run Try.prog w = .ok (.enter f args) w) : (execOp a.eval o).run Try.prog w = .ok (.enter f #[u]) w := by
  have hf : a.eval (.func f) = .func (.func f) #[] #[] := rfl
  unfold execOp
  simp only [ho, resolve, List.map_toArray, List.map_cons, List.map_nil, hx, hf]
  simp [go_sem, he]
end
section
variable {N : Nat} {wr : Nat → Bool} {us : Nat → Nat → Bool} {O : Nat → Nat → Prop} {i j : Nat} {w w' W0 : World} {base : Nat} {v : Value}
theorem own_start (hb : base ≤ w.heap.size) : (FP.own []).holds base (.slice (some ⟨w.heap.size, 0, none⟩) 0 0) (Mx N wr us O i w (w.alloc (.cells #[] 3))) (w.alloc (.cells #[] 3)) :=
  ⟨_, _, rfl, owns_base (own_new w) hb, fun r hr => by
    have : w.heap.size = r := Option.some.inj hr
    subst this
    exact Mx.fresh (Nat.le_refl _) (by simp)⟩
end
theorem FP.tab_own {w : World} {base : Nat} {O : Nat → Prop} {v : Value} {xs : List (List Int)} (h : (FP.ownT xs).holds base v O w) : (FP.tab xs).holds base v O w := FP.tab_of_own h fun _ h => h
end Go.Proofs
