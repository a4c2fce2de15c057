/- The walk of Known, cases 7 to 13; Known; given of chapter 18; A greater limit changes nothing; Ways of words; what was scanned is closed. -/
import Derived.Test.YtcfighimnkfmeaaCjCS16
import Derived.Test.YtcfighimnkfmeaaCjCS3
namespace Go.Proofs
open Go.RowKit Go.Shelf Go.Proofs.Ct Go.Maps
set_option maxRecDepth 100000 in
set_option maxHeartbeats 2000000 in
theorem known60_7 (w : World) (x : Int) (hx : x % 14 = 7) : Calls Try.prog 60 #[.int .i64 x] w (KnownPost 2 [powW [1] 4, powW [2] 6, [-1, -2, 1, 2]] 24 w) := by
  have HT : Hid (∀ W, Calls Try.prog 59 #[.int .i64 x, .int .i64 14] W fun e w' => e = .returned (.int .i64 7) ∧ w' = W) := Lib.hid fun W => by
    have := turn59_any W x 14 (by omega)
    rwa [show ((14 : Nat) : Int) = 14 from rfl, hx] at this
  clear hx
  unfold KnownPost
  go_enter Try.func60, Try.ntmps60
  go_wp2_with ((with_reducible refine wpList_sel 2 ?_); refine wpList_val rfl (r_alloc40 rfl) ?_)
  refine (HT.out _).mono ?_
  rintro e w1 ⟨rfl, h0⟩
  obtain ⟨hS, f4, f5, f6, f7⟩ := known_start w w1 h0
  have HS := Lib.hid hS
  have F4 := Lib.hid f4
  have F5 := Lib.hid f5
  have F6 := Lib.hid f6
  have F7 := Lib.hid f7
  clear hS f4 f5 f6 f7 h0
  go_wp2_with fail
  refine (powerK _ _ [1] 4 4 F4.out.at_ (by omega) (by decide) rfl).mono ?_
  rintro e w2 ⟨A83, c83, rfl, ho, hb⟩
  have hnew := IntsB.own (base := w.heap.size + 1) ho (fits_lit (by decide)) HS.out.lt
  have HS := Lib.hid (HS.out.below' hb)
  have F4 := Lib.hid (F4.out.below hb)
  have F5 := Lib.hid (F5.out.below hb)
  have F6 := Lib.hid (F6.out.below hb)
  have F7 := Lib.hid (F7.out.below hb)
  have F83 := Lib.hid hnew
  clear ho hb hnew
  go_wp2_with fail
  refine (powerK _ _ [2] 6 6 F5.out.at_ (by omega) (by decide) rfl).mono ?_
  rintro e w3 ⟨A85, c85, rfl, ho, hb⟩
  have hnew := IntsB.own (base := w.heap.size + 1) ho (fits_lit (by decide)) HS.out.lt
  have HS := Lib.hid (HS.out.below' hb)
  have F4 := Lib.hid (F4.out.below hb)
  have F5 := Lib.hid (F5.out.below hb)
  have F6 := Lib.hid (F6.out.below hb)
  have F7 := Lib.hid (F7.out.below hb)
  have F83 := Lib.hid (F83.out.below hb)
  have F85 := Lib.hid hnew
  clear ho hb hnew
  have hrow : ∀ i, i < 3 → IntsB (w.heap.size + 1) (w3) (([.slice A83 4 c83, .slice A85 6 c85, .slice (some ⟨w.heap.size + 1 + 1 + 1 + 1, 0, none⟩) 4 4] : List Value).getD i undef) (([powW [1] 4, powW [2] 6, [-1, -2, 1, 2]] : List W).getD i []) := fun i hi => by
    have : i = 0 ∨ i = 1 ∨ i = 2 := by omega
    rcases this with rfl | rfl | rfl
    · exact F83.out
    · exact F85.out
    · exact F7.out
  have hend := known_end HS.out (us := [.slice A83 4 c83, .slice A85 6 c85, .slice (some ⟨w.heap.size + 1 + 1 + 1 + 1, 0, none⟩) 4 4]) (xs := [powW [1] 4, powW [2] 6, [-1, -2, 1, 2]]) (n := 3) rfl rfl hrow (by omega) 2
  have HEND := Lib.hid hend
  clear hend hrow
  go_wp2_with ((with_reducible refine wpList_sel 88 ?_); refine wpList_val rfl (r_build40s _ (.tmp 87) 2 _ _ _ rfl rfl rfl) ?_; refine wpList_skip rfl (r_store40 (.tmp 2) (.tmp 88) rfl w.heap.size zero40 _ rfl rfl HEND.out.1 rfl rfl (one40 _ _ _ _)) ?_)
  try simp only [Exit.inBlock, Exit.then]
  refine bodyPost_ret (results_40_tmp (p := 2) (q := 3) rfl _ _ w.heap.size _ (.int .i64 24) rfl rfl (setRow_heap _ _ _ _ _ _ HEND.out.1) rfl) rfl ⟨⟨_, _, rfl, HEND.out.2.1⟩, HEND.out.2.2⟩
set_option maxRecDepth 100000 in
set_option maxHeartbeats 2000000 in
theorem known60_8 (w : World) (x : Int) (hx : x % 14 = 8) : Calls Try.prog 60 #[.int .i64 x] w (KnownPost 3 [powW [1] 2, powW [2] 2, [3, 3], powW [1, 2] 3, powW [2, 3] 3, powW [1, 3] 2] 24 w) := by
  have HT : Hid (∀ W, Calls Try.prog 59 #[.int .i64 x, .int .i64 14] W fun e w' => e = .returned (.int .i64 8) ∧ w' = W) := Lib.hid fun W => by
    have := turn59_any W x 14 (by omega)
    rwa [show ((14 : Nat) : Int) = 14 from rfl, hx] at this
  clear hx
  unfold KnownPost
  go_enter Try.func60, Try.ntmps60
  go_wp2_with ((with_reducible refine wpList_sel 2 ?_); refine wpList_val rfl (r_alloc40 rfl) ?_)
  refine (HT.out _).mono ?_
  rintro e w1 ⟨rfl, h0⟩
  obtain ⟨hS, f4, f5, f6, f7⟩ := known_start w w1 h0
  have HS := Lib.hid hS
  have F4 := Lib.hid f4
  have F5 := Lib.hid f5
  have F6 := Lib.hid f6
  have F7 := Lib.hid f7
  clear hS f4 f5 f6 f7 h0
  go_wp2_with fail
  refine (powerK _ _ [1] 2 2 F4.out.at_ (by omega) (by decide) rfl).mono ?_
  rintro e w2 ⟨A92, c92, rfl, ho, hb⟩
  have hnew := IntsB.own (base := w.heap.size + 1) ho (fits_lit (by decide)) HS.out.lt
  have HS := Lib.hid (HS.out.below' hb)
  have F4 := Lib.hid (F4.out.below hb)
  have F5 := Lib.hid (F5.out.below hb)
  have F6 := Lib.hid (F6.out.below hb)
  have F7 := Lib.hid (F7.out.below hb)
  have F92 := Lib.hid hnew
  clear ho hb hnew
  go_wp2_with fail
  refine (powerK _ _ [2] 2 2 F5.out.at_ (by omega) (by decide) rfl).mono ?_
  rintro e w3 ⟨A94, c94, rfl, ho, hb⟩
  have hnew := IntsB.own (base := w.heap.size + 1) ho (fits_lit (by decide)) HS.out.lt
  have HS := Lib.hid (HS.out.below' hb)
  have F4 := Lib.hid (F4.out.below hb)
  have F5 := Lib.hid (F5.out.below hb)
  have F6 := Lib.hid (F6.out.below hb)
  have F7 := Lib.hid (F7.out.below hb)
  have F92 := Lib.hid (F92.out.below hb)
  have F94 := Lib.hid hnew
  clear ho hb hnew
  have hal : Below (w3).heap.size (w3) ((w3).alloc (.cells (ints [3, 3]).toArray 3)) := (Below.refl _ _).alloc (Nat.le_refl _) _
  have hnew := IntsB.lit (base := w.heap.size + 1) (w3) [3, 3] (fits_lit (by decide)) (n := 2) rfl (by omega) HS.out.lt
  have HS := Lib.hid (HS.out.below' hal)
  have F4 := Lib.hid (F4.out.below hal)
  have F5 := Lib.hid (F5.out.below hal)
  have F6 := Lib.hid (F6.out.below hal)
  have F7 := Lib.hid (F7.out.below hal)
  have F92 := Lib.hid (F92.out.below hal)
  have F94 := Lib.hid (F94.out.below hal)
  have F95 := Lib.hid hnew
  clear hal hnew
  go_wp2_with fail
  refine (powerK _ _ [1, 2] 3 6 F6.out.at_ (by omega) (by decide) rfl).mono ?_
  rintro e w4 ⟨A97, c97, rfl, ho, hb⟩
  have hnew := IntsB.own (base := w.heap.size + 1) ho (fits_lit (by decide)) HS.out.lt
  have HS := Lib.hid (HS.out.below' hb)
  have F4 := Lib.hid (F4.out.below hb)
  have F5 := Lib.hid (F5.out.below hb)
  have F6 := Lib.hid (F6.out.below hb)
  have F7 := Lib.hid (F7.out.below hb)
  have F92 := Lib.hid (F92.out.below hb)
  have F94 := Lib.hid (F94.out.below hb)
  have F95 := Lib.hid (F95.out.below hb)
  have F97 := Lib.hid hnew
  clear ho hb hnew
  have hal : Below (w4).heap.size (w4) ((w4).alloc (.cells (ints [2, 3]).toArray 3)) := (Below.refl _ _).alloc (Nat.le_refl _) _
  have hnew := IntsB.lit (base := w.heap.size + 1) (w4) [2, 3] (fits_lit (by decide)) (n := 2) rfl (by omega) HS.out.lt
  have HS := Lib.hid (HS.out.below' hal)
  have F4 := Lib.hid (F4.out.below hal)
  have F5 := Lib.hid (F5.out.below hal)
  have F6 := Lib.hid (F6.out.below hal)
  have F7 := Lib.hid (F7.out.below hal)
  have F92 := Lib.hid (F92.out.below hal)
  have F94 := Lib.hid (F94.out.below hal)
  have F95 := Lib.hid (F95.out.below hal)
  have F97 := Lib.hid (F97.out.below hal)
  have F98 := Lib.hid hnew
  clear hal hnew
  go_wp2_with fail
  refine (powerK _ _ [2, 3] 3 6 F98.out.at_ (by omega) (by decide) rfl).mono ?_
  rintro e w5 ⟨A99, c99, rfl, ho, hb⟩
  have hnew := IntsB.own (base := w.heap.size + 1) ho (fits_lit (by decide)) HS.out.lt
  have HS := Lib.hid (HS.out.below' hb)
  have F4 := Lib.hid (F4.out.below hb)
  have F5 := Lib.hid (F5.out.below hb)
  have F6 := Lib.hid (F6.out.below hb)
  have F7 := Lib.hid (F7.out.below hb)
  have F92 := Lib.hid (F92.out.below hb)
  have F94 := Lib.hid (F94.out.below hb)
  have F95 := Lib.hid (F95.out.below hb)
  have F97 := Lib.hid (F97.out.below hb)
  have F98 := Lib.hid (F98.out.below hb)
  have F99 := Lib.hid hnew
  clear ho hb hnew
  have hal : Below (w5).heap.size (w5) ((w5).alloc (.cells (ints [1, 3]).toArray 3)) := (Below.refl _ _).alloc (Nat.le_refl _) _
  have hnew := IntsB.lit (base := w.heap.size + 1) (w5) [1, 3] (fits_lit (by decide)) (n := 2) rfl (by omega) HS.out.lt
  have HS := Lib.hid (HS.out.below' hal)
  have F4 := Lib.hid (F4.out.below hal)
  have F5 := Lib.hid (F5.out.below hal)
  have F6 := Lib.hid (F6.out.below hal)
  have F7 := Lib.hid (F7.out.below hal)
  have F92 := Lib.hid (F92.out.below hal)
  have F94 := Lib.hid (F94.out.below hal)
  have F95 := Lib.hid (F95.out.below hal)
  have F97 := Lib.hid (F97.out.below hal)
  have F98 := Lib.hid (F98.out.below hal)
  have F99 := Lib.hid (F99.out.below hal)
  have F100 := Lib.hid hnew
  clear hal hnew
  go_wp2_with fail
  refine (powerK _ _ [1, 3] 2 4 F100.out.at_ (by omega) (by decide) rfl).mono ?_
  rintro e w6 ⟨A101, c101, rfl, ho, hb⟩
  have hnew := IntsB.own (base := w.heap.size + 1) ho (fits_lit (by decide)) HS.out.lt
  have HS := Lib.hid (HS.out.below' hb)
  have F4 := Lib.hid (F4.out.below hb)
  have F5 := Lib.hid (F5.out.below hb)
  have F6 := Lib.hid (F6.out.below hb)
  have F7 := Lib.hid (F7.out.below hb)
  have F92 := Lib.hid (F92.out.below hb)
  have F94 := Lib.hid (F94.out.below hb)
  have F95 := Lib.hid (F95.out.below hb)
  have F97 := Lib.hid (F97.out.below hb)
  have F98 := Lib.hid (F98.out.below hb)
  have F99 := Lib.hid (F99.out.below hb)
  have F100 := Lib.hid (F100.out.below hb)
  have F101 := Lib.hid hnew
  clear ho hb hnew
  have hrow : ∀ i, i < 6 → IntsB (w.heap.size + 1) (w6) (([.slice A92 2 c92, .slice A94 2 c94, .slice (some ⟨w3.heap.size, 0, none⟩) 2 2, .slice A97 6 c97, .slice A99 6 c99, .slice A101 4 c101] : List Value).getD i undef) (([powW [1] 2, powW [2] 2, [3, 3], powW [1, 2] 3, powW [2, 3] 3, powW [1, 3] 2] : List W).getD i []) := fun i hi => by
    have : i = 0 ∨ i = 1 ∨ i = 2 ∨ i = 3 ∨ i = 4 ∨ i = 5 := by omega
    rcases this with rfl | rfl | rfl | rfl | rfl | rfl
    · exact F92.out
    · exact F94.out
    · exact F95.out
    · exact F97.out
    · exact F99.out
    · exact F101.out
  have hend := known_end HS.out (us := [.slice A92 2 c92, .slice A94 2 c94, .slice (some ⟨w3.heap.size, 0, none⟩) 2 2, .slice A97 6 c97, .slice A99 6 c99, .slice A101 4 c101]) (xs := [powW [1] 2, powW [2] 2, [3, 3], powW [1, 2] 3, powW [2, 3] 3, powW [1, 3] 2]) (n := 6) rfl rfl hrow (by omega) 3
  have HEND := Lib.hid hend
  clear hend hrow
  go_wp2_with ((with_reducible refine wpList_sel 103 ?_); refine wpList_val rfl (r_build40s _ (.tmp 102) 3 _ _ _ rfl rfl rfl) ?_; refine wpList_skip rfl (r_store40 (.tmp 2) (.tmp 103) rfl w.heap.size zero40 _ rfl rfl HEND.out.1 rfl rfl (one40 _ _ _ _)) ?_)
  try simp only [Exit.inBlock, Exit.then]
  refine bodyPost_ret (results_40_tmp (p := 2) (q := 3) rfl _ _ w.heap.size _ (.int .i64 24) rfl rfl (setRow_heap _ _ _ _ _ _ HEND.out.1) rfl) rfl ⟨⟨_, _, rfl, HEND.out.2.1⟩, HEND.out.2.2⟩
set_option maxRecDepth 100000 in
set_option maxHeartbeats 2000000 in
theorem known60_9 (w : World) (x : Int) (hx : x % 14 = 9) : Calls Try.prog 60 #[.int .i64 x] w (KnownPost 2 [powW [1] 2, powW [2] 3, powW [1, 2] 7, powW [-1, -2, 1, 2] 4] 168 w) := by
  have HT : Hid (∀ W, Calls Try.prog 59 #[.int .i64 x, .int .i64 14] W fun e w' => e = .returned (.int .i64 9) ∧ w' = W) := Lib.hid fun W => by
    have := turn59_any W x 14 (by omega)
    rwa [show ((14 : Nat) : Int) = 14 from rfl, hx] at this
  clear hx
  unfold KnownPost
  go_enter Try.func60, Try.ntmps60
  go_wp2_with ((with_reducible refine wpList_sel 2 ?_); refine wpList_val rfl (r_alloc40 rfl) ?_)
  refine (HT.out _).mono ?_
  rintro e w1 ⟨rfl, h0⟩
  obtain ⟨hS, f4, f5, f6, f7⟩ := known_start w w1 h0
  have HS := Lib.hid hS
  have F4 := Lib.hid f4
  have F5 := Lib.hid f5
  have F6 := Lib.hid f6
  have F7 := Lib.hid f7
  clear hS f4 f5 f6 f7 h0
  go_wp2_with fail
  refine (powerK _ _ [1] 2 2 F4.out.at_ (by omega) (by decide) rfl).mono ?_
  rintro e w2 ⟨A107, c107, rfl, ho, hb⟩
  have hnew := IntsB.own (base := w.heap.size + 1) ho (fits_lit (by decide)) HS.out.lt
  have HS := Lib.hid (HS.out.below' hb)
  have F4 := Lib.hid (F4.out.below hb)
  have F5 := Lib.hid (F5.out.below hb)
  have F6 := Lib.hid (F6.out.below hb)
  have F7 := Lib.hid (F7.out.below hb)
  have F107 := Lib.hid hnew
  clear ho hb hnew
  go_wp2_with fail
  refine (powerK _ _ [2] 3 3 F5.out.at_ (by omega) (by decide) rfl).mono ?_
  rintro e w3 ⟨A109, c109, rfl, ho, hb⟩
  have hnew := IntsB.own (base := w.heap.size + 1) ho (fits_lit (by decide)) HS.out.lt
  have HS := Lib.hid (HS.out.below' hb)
  have F4 := Lib.hid (F4.out.below hb)
  have F5 := Lib.hid (F5.out.below hb)
  have F6 := Lib.hid (F6.out.below hb)
  have F7 := Lib.hid (F7.out.below hb)
  have F107 := Lib.hid (F107.out.below hb)
  have F109 := Lib.hid hnew
  clear ho hb hnew
  go_wp2_with fail
  refine (powerK _ _ [1, 2] 7 14 F6.out.at_ (by omega) (by decide) rfl).mono ?_
  rintro e w4 ⟨A111, c111, rfl, ho, hb⟩
  have hnew := IntsB.own (base := w.heap.size + 1) ho (fits_lit (by decide)) HS.out.lt
  have HS := Lib.hid (HS.out.below' hb)
  have F4 := Lib.hid (F4.out.below hb)
  have F5 := Lib.hid (F5.out.below hb)
  have F6 := Lib.hid (F6.out.below hb)
  have F7 := Lib.hid (F7.out.below hb)
  have F107 := Lib.hid (F107.out.below hb)
  have F109 := Lib.hid (F109.out.below hb)
  have F111 := Lib.hid hnew
  clear ho hb hnew
  go_wp2_with fail
  refine (powerK _ _ [-1, -2, 1, 2] 4 16 F7.out.at_ (by omega) (by decide) rfl).mono ?_
  rintro e w5 ⟨A113, c113, rfl, ho, hb⟩
  have hnew := IntsB.own (base := w.heap.size + 1) ho (fits_lit (by decide)) HS.out.lt
  have HS := Lib.hid (HS.out.below' hb)
  have F4 := Lib.hid (F4.out.below hb)
  have F5 := Lib.hid (F5.out.below hb)
  have F6 := Lib.hid (F6.out.below hb)
  have F7 := Lib.hid (F7.out.below hb)
  have F107 := Lib.hid (F107.out.below hb)
  have F109 := Lib.hid (F109.out.below hb)
  have F111 := Lib.hid (F111.out.below hb)
  have F113 := Lib.hid hnew
  clear ho hb hnew
  have hrow : ∀ i, i < 4 → IntsB (w.heap.size + 1) (w5) (([.slice A107 2 c107, .slice A109 3 c109, .slice A111 14 c111, .slice A113 16 c113] : List Value).getD i undef) (([powW [1] 2, powW [2] 3, powW [1, 2] 7, powW [-1, -2, 1, 2] 4] : List W).getD i []) := fun i hi => by
    have : i = 0 ∨ i = 1 ∨ i = 2 ∨ i = 3 := by omega
    rcases this with rfl | rfl | rfl | rfl
    · exact F107.out
    · exact F109.out
    · exact F111.out
    · exact F113.out
  have hend := known_end HS.out (us := [.slice A107 2 c107, .slice A109 3 c109, .slice A111 14 c111, .slice A113 16 c113]) (xs := [powW [1] 2, powW [2] 3, powW [1, 2] 7, powW [-1, -2, 1, 2] 4]) (n := 4) rfl rfl hrow (by omega) 2
  have HEND := Lib.hid hend
  clear hend hrow
  go_wp2_with ((with_reducible refine wpList_sel 115 ?_); refine wpList_val rfl (r_build40s _ (.tmp 114) 2 _ _ _ rfl rfl rfl) ?_; refine wpList_skip rfl (r_store40 (.tmp 2) (.tmp 115) rfl w.heap.size zero40 _ rfl rfl HEND.out.1 rfl rfl (one40 _ _ _ _)) ?_)
  try simp only [Exit.inBlock, Exit.then]
  refine bodyPost_ret (results_40_tmp (p := 2) (q := 3) rfl _ _ w.heap.size _ (.int .i64 168) rfl rfl (setRow_heap _ _ _ _ _ _ HEND.out.1) rfl) rfl ⟨⟨_, _, rfl, HEND.out.2.1⟩, HEND.out.2.2⟩
set_option maxRecDepth 100000 in
set_option maxHeartbeats 2000000 in
theorem known60_10 (w : World) (x : Int) (hx : x % 14 = 10) : Calls Try.prog 60 #[.int .i64 x] w (KnownPost 2 [[-2, 1, 2, -1, -1], [-1, 2, 1, -2, -2]] 1 w) := by
  have HT : Hid (∀ W, Calls Try.prog 59 #[.int .i64 x, .int .i64 14] W fun e w' => e = .returned (.int .i64 10) ∧ w' = W) := Lib.hid fun W => by
    have := turn59_any W x 14 (by omega)
    rwa [show ((14 : Nat) : Int) = 14 from rfl, hx] at this
  clear hx
  unfold KnownPost
  go_enter Try.func60, Try.ntmps60
  go_wp2_with ((with_reducible refine wpList_sel 2 ?_); refine wpList_val rfl (r_alloc40 rfl) ?_)
  refine (HT.out _).mono ?_
  rintro e w1 ⟨rfl, h0⟩
  obtain ⟨hS, f4, f5, f6, f7⟩ := known_start w w1 h0
  have HS := Lib.hid hS
  have F4 := Lib.hid f4
  have F5 := Lib.hid f5
  have F6 := Lib.hid f6
  have F7 := Lib.hid f7
  clear hS f4 f5 f6 f7 h0
  have hal : Below (w1).heap.size (w1) ((w1).alloc (.cells (ints [-2, 1, 2, -1, -1]).toArray 3)) := (Below.refl _ _).alloc (Nat.le_refl _) _
  have hnew := IntsB.lit (base := w.heap.size + 1) (w1) [-2, 1, 2, -1, -1] (fits_lit (by decide)) (n := 5) rfl (by omega) HS.out.lt
  have HS := Lib.hid (HS.out.below' hal)
  have F4 := Lib.hid (F4.out.below hal)
  have F5 := Lib.hid (F5.out.below hal)
  have F6 := Lib.hid (F6.out.below hal)
  have F7 := Lib.hid (F7.out.below hal)
  have F118 := Lib.hid hnew
  clear hal hnew
  have hal : Below ((w1).alloc (.cells (ints [-2, 1, 2, -1, -1]).toArray 3)).heap.size ((w1).alloc (.cells (ints [-2, 1, 2, -1, -1]).toArray 3)) (((w1).alloc (.cells (ints [-2, 1, 2, -1, -1]).toArray 3)).alloc (.cells (ints [-1, 2, 1, -2, -2]).toArray 3)) := (Below.refl _ _).alloc (Nat.le_refl _) _
  have hnew := IntsB.lit (base := w.heap.size + 1) ((w1).alloc (.cells (ints [-2, 1, 2, -1, -1]).toArray 3)) [-1, 2, 1, -2, -2] (fits_lit (by decide)) (n := 5) rfl (by omega) HS.out.lt
  simp only [World.size_alloc] at hnew
  have HS := Lib.hid (HS.out.below' hal)
  have F4 := Lib.hid (F4.out.below hal)
  have F5 := Lib.hid (F5.out.below hal)
  have F6 := Lib.hid (F6.out.below hal)
  have F7 := Lib.hid (F7.out.below hal)
  have F118 := Lib.hid (F118.out.below hal)
  have F119 := Lib.hid hnew
  clear hal hnew
  have hrow : ∀ i, i < 2 → IntsB (w.heap.size + 1) (((w1).alloc (.cells (ints [-2, 1, 2, -1, -1]).toArray 3)).alloc (.cells (ints [-1, 2, 1, -2, -2]).toArray 3)) (([.slice (some ⟨w1.heap.size, 0, none⟩) 5 5, .slice (some ⟨w1.heap.size + 1, 0, none⟩) 5 5] : List Value).getD i undef) (([[-2, 1, 2, -1, -1], [-1, 2, 1, -2, -2]] : List W).getD i []) := fun i hi => by
    have : i = 0 ∨ i = 1 := by omega
    rcases this with rfl | rfl
    · exact F118.out
    · exact F119.out
  have hend := known_end HS.out (us := [.slice (some ⟨w1.heap.size, 0, none⟩) 5 5, .slice (some ⟨w1.heap.size + 1, 0, none⟩) 5 5]) (xs := [[-2, 1, 2, -1, -1], [-1, 2, 1, -2, -2]]) (n := 2) rfl rfl hrow (by omega) 2
  simp only [World.size_alloc] at hend
  have HEND := Lib.hid hend
  clear hend hrow
  go_wp2_with ((with_reducible refine wpList_sel 121 ?_); refine wpList_val rfl (r_build40s _ (.tmp 120) 2 _ _ _ rfl rfl rfl) ?_; refine wpList_skip rfl (r_store40 (.tmp 2) (.tmp 121) rfl w.heap.size zero40 _ rfl rfl HEND.out.1 rfl rfl (one40 _ _ _ _)) ?_)
  try simp only [Exit.inBlock, Exit.then]
  refine bodyPost_ret (results_40_tmp (p := 2) (q := 3) rfl _ _ w.heap.size _ (.int .i64 1) rfl rfl (setRow_heap _ _ _ _ _ _ HEND.out.1) rfl) rfl ⟨⟨_, _, rfl, HEND.out.2.1⟩, HEND.out.2.2⟩
set_option maxRecDepth 100000 in
set_option maxHeartbeats 2000000 in
theorem known60_11 (w : World) (x : Int) (hx : x % 14 = 11) : Calls Try.prog 60 #[.int .i64 x] w (KnownPost 3 [powW [1] 2, powW [2] 2, [3, 3], [-1, -2, 1, 2], [-1, -3, 1, 3], [-2, -3, 2, 3]] 8 w) := by
  have HT : Hid (∀ W, Calls Try.prog 59 #[.int .i64 x, .int .i64 14] W fun e w' => e = .returned (.int .i64 11) ∧ w' = W) := Lib.hid fun W => by
    have := turn59_any W x 14 (by omega)
    rwa [show ((14 : Nat) : Int) = 14 from rfl, hx] at this
  clear hx
  unfold KnownPost
  go_enter Try.func60, Try.ntmps60
  go_wp2_with ((with_reducible refine wpList_sel 2 ?_); refine wpList_val rfl (r_alloc40 rfl) ?_)
  refine (HT.out _).mono ?_
  rintro e w1 ⟨rfl, h0⟩
  obtain ⟨hS, f4, f5, f6, f7⟩ := known_start w w1 h0
  have HS := Lib.hid hS
  have F4 := Lib.hid f4
  have F5 := Lib.hid f5
  have F6 := Lib.hid f6
  have F7 := Lib.hid f7
  clear hS f4 f5 f6 f7 h0
  go_wp2_with fail
  refine (powerK _ _ [1] 2 2 F4.out.at_ (by omega) (by decide) rfl).mono ?_
  rintro e w2 ⟨A125, c125, rfl, ho, hb⟩
  have hnew := IntsB.own (base := w.heap.size + 1) ho (fits_lit (by decide)) HS.out.lt
  have HS := Lib.hid (HS.out.below' hb)
  have F4 := Lib.hid (F4.out.below hb)
  have F5 := Lib.hid (F5.out.below hb)
  have F6 := Lib.hid (F6.out.below hb)
  have F7 := Lib.hid (F7.out.below hb)
  have F125 := Lib.hid hnew
  clear ho hb hnew
  go_wp2_with fail
  refine (powerK _ _ [2] 2 2 F5.out.at_ (by omega) (by decide) rfl).mono ?_
  rintro e w3 ⟨A127, c127, rfl, ho, hb⟩
  have hnew := IntsB.own (base := w.heap.size + 1) ho (fits_lit (by decide)) HS.out.lt
  have HS := Lib.hid (HS.out.below' hb)
  have F4 := Lib.hid (F4.out.below hb)
  have F5 := Lib.hid (F5.out.below hb)
  have F6 := Lib.hid (F6.out.below hb)
  have F7 := Lib.hid (F7.out.below hb)
  have F125 := Lib.hid (F125.out.below hb)
  have F127 := Lib.hid hnew
  clear ho hb hnew
  have hal : Below (w3).heap.size (w3) ((w3).alloc (.cells (ints [3, 3]).toArray 3)) := (Below.refl _ _).alloc (Nat.le_refl _) _
  have hnew := IntsB.lit (base := w.heap.size + 1) (w3) [3, 3] (fits_lit (by decide)) (n := 2) rfl (by omega) HS.out.lt
  have HS := Lib.hid (HS.out.below' hal)
  have F4 := Lib.hid (F4.out.below hal)
  have F5 := Lib.hid (F5.out.below hal)
  have F6 := Lib.hid (F6.out.below hal)
  have F7 := Lib.hid (F7.out.below hal)
  have F125 := Lib.hid (F125.out.below hal)
  have F127 := Lib.hid (F127.out.below hal)
  have F128 := Lib.hid hnew
  clear hal hnew
  have hal : Below ((w3).alloc (.cells (ints [3, 3]).toArray 3)).heap.size ((w3).alloc (.cells (ints [3, 3]).toArray 3)) (((w3).alloc (.cells (ints [3, 3]).toArray 3)).alloc (.cells (ints [-1, -3, 1, 3]).toArray 3)) := (Below.refl _ _).alloc (Nat.le_refl _) _
  have hnew := IntsB.lit (base := w.heap.size + 1) ((w3).alloc (.cells (ints [3, 3]).toArray 3)) [-1, -3, 1, 3] (fits_lit (by decide)) (n := 4) rfl (by omega) HS.out.lt
  simp only [World.size_alloc] at hnew
  have HS := Lib.hid (HS.out.below' hal)
  have F4 := Lib.hid (F4.out.below hal)
  have F5 := Lib.hid (F5.out.below hal)
  have F6 := Lib.hid (F6.out.below hal)
  have F7 := Lib.hid (F7.out.below hal)
  have F125 := Lib.hid (F125.out.below hal)
  have F127 := Lib.hid (F127.out.below hal)
  have F128 := Lib.hid (F128.out.below hal)
  have F130 := Lib.hid hnew
  clear hal hnew
  have hal : Below (((w3).alloc (.cells (ints [3, 3]).toArray 3)).alloc (.cells (ints [-1, -3, 1, 3]).toArray 3)).heap.size (((w3).alloc (.cells (ints [3, 3]).toArray 3)).alloc (.cells (ints [-1, -3, 1, 3]).toArray 3)) ((((w3).alloc (.cells (ints [3, 3]).toArray 3)).alloc (.cells (ints [-1, -3, 1, 3]).toArray 3)).alloc (.cells (ints [-2, -3, 2, 3]).toArray 3)) := (Below.refl _ _).alloc (Nat.le_refl _) _
  have hnew := IntsB.lit (base := w.heap.size + 1) (((w3).alloc (.cells (ints [3, 3]).toArray 3)).alloc (.cells (ints [-1, -3, 1, 3]).toArray 3)) [-2, -3, 2, 3] (fits_lit (by decide)) (n := 4) rfl (by omega) HS.out.lt
  simp only [World.size_alloc] at hnew
  have HS := Lib.hid (HS.out.below' hal)
  have F4 := Lib.hid (F4.out.below hal)
  have F5 := Lib.hid (F5.out.below hal)
  have F6 := Lib.hid (F6.out.below hal)
  have F7 := Lib.hid (F7.out.below hal)
  have F125 := Lib.hid (F125.out.below hal)
  have F127 := Lib.hid (F127.out.below hal)
  have F128 := Lib.hid (F128.out.below hal)
  have F130 := Lib.hid (F130.out.below hal)
  have F131 := Lib.hid hnew
  clear hal hnew
  have hrow : ∀ i, i < 6 → IntsB (w.heap.size + 1) ((((w3).alloc (.cells (ints [3, 3]).toArray 3)).alloc (.cells (ints [-1, -3, 1, 3]).toArray 3)).alloc (.cells (ints [-2, -3, 2, 3]).toArray 3)) (([.slice A125 2 c125, .slice A127 2 c127, .slice (some ⟨w3.heap.size, 0, none⟩) 2 2, .slice (some ⟨w.heap.size + 1 + 1 + 1 + 1, 0, none⟩) 4 4, .slice (some ⟨w3.heap.size + 1, 0, none⟩) 4 4, .slice (some ⟨w3.heap.size + 1 + 1, 0, none⟩) 4 4] : List Value).getD i undef) (([powW [1] 2, powW [2] 2, [3, 3], [-1, -2, 1, 2], [-1, -3, 1, 3], [-2, -3, 2, 3]] : List W).getD i []) := fun i hi => by
    have : i = 0 ∨ i = 1 ∨ i = 2 ∨ i = 3 ∨ i = 4 ∨ i = 5 := by omega
    rcases this with rfl | rfl | rfl | rfl | rfl | rfl
    · exact F125.out
    · exact F127.out
    · exact F128.out
    · exact F7.out
    · exact F130.out
    · exact F131.out
  have hend := known_end HS.out (us := [.slice A125 2 c125, .slice A127 2 c127, .slice (some ⟨w3.heap.size, 0, none⟩) 2 2, .slice (some ⟨w.heap.size + 1 + 1 + 1 + 1, 0, none⟩) 4 4, .slice (some ⟨w3.heap.size + 1, 0, none⟩) 4 4, .slice (some ⟨w3.heap.size + 1 + 1, 0, none⟩) 4 4]) (xs := [powW [1] 2, powW [2] 2, [3, 3], [-1, -2, 1, 2], [-1, -3, 1, 3], [-2, -3, 2, 3]]) (n := 6) rfl rfl hrow (by omega) 3
  simp only [World.size_alloc] at hend
  have HEND := Lib.hid hend
  clear hend hrow
  go_wp2_with ((with_reducible refine wpList_sel 133 ?_); refine wpList_val rfl (r_build40s _ (.tmp 132) 3 _ _ _ rfl rfl rfl) ?_; refine wpList_skip rfl (r_store40 (.tmp 2) (.tmp 133) rfl w.heap.size zero40 _ rfl rfl HEND.out.1 rfl rfl (one40 _ _ _ _)) ?_)
  try simp only [Exit.inBlock, Exit.then]
  refine bodyPost_ret (results_40_tmp (p := 2) (q := 3) rfl _ _ w.heap.size _ (.int .i64 8) rfl rfl (setRow_heap _ _ _ _ _ _ HEND.out.1) rfl) rfl ⟨⟨_, _, rfl, HEND.out.2.1⟩, HEND.out.2.2⟩
set_option maxRecDepth 100000 in
set_option maxHeartbeats 2000000 in
theorem known60_12 (w : World) (x : Int) (hx : x % 14 = 12) : Calls Try.prog 60 #[.int .i64 x] w (KnownPost 2 [powW [1] 5, powW [2] 4, [-2, 1, 2, -1, -1]] 20 w) := by
  have HT : Hid (∀ W, Calls Try.prog 59 #[.int .i64 x, .int .i64 14] W fun e w' => e = .returned (.int .i64 12) ∧ w' = W) := Lib.hid fun W => by
    have := turn59_any W x 14 (by omega)
    rwa [show ((14 : Nat) : Int) = 14 from rfl, hx] at this
  clear hx
  unfold KnownPost
  go_enter Try.func60, Try.ntmps60
  go_wp2_with ((with_reducible refine wpList_sel 2 ?_); refine wpList_val rfl (r_alloc40 rfl) ?_)
  refine (HT.out _).mono ?_
  rintro e w1 ⟨rfl, h0⟩
  obtain ⟨hS, f4, f5, f6, f7⟩ := known_start w w1 h0
  have HS := Lib.hid hS
  have F4 := Lib.hid f4
  have F5 := Lib.hid f5
  have F6 := Lib.hid f6
  have F7 := Lib.hid f7
  clear hS f4 f5 f6 f7 h0
  go_wp2_with fail
  refine (powerK _ _ [1] 5 5 F4.out.at_ (by omega) (by decide) rfl).mono ?_
  rintro e w2 ⟨A137, c137, rfl, ho, hb⟩
  have hnew := IntsB.own (base := w.heap.size + 1) ho (fits_lit (by decide)) HS.out.lt
  have HS := Lib.hid (HS.out.below' hb)
  have F4 := Lib.hid (F4.out.below hb)
  have F5 := Lib.hid (F5.out.below hb)
  have F6 := Lib.hid (F6.out.below hb)
  have F7 := Lib.hid (F7.out.below hb)
  have F137 := Lib.hid hnew
  clear ho hb hnew
  go_wp2_with fail
  refine (powerK _ _ [2] 4 4 F5.out.at_ (by omega) (by decide) rfl).mono ?_
  rintro e w3 ⟨A139, c139, rfl, ho, hb⟩
  have hnew := IntsB.own (base := w.heap.size + 1) ho (fits_lit (by decide)) HS.out.lt
  have HS := Lib.hid (HS.out.below' hb)
  have F4 := Lib.hid (F4.out.below hb)
  have F5 := Lib.hid (F5.out.below hb)
  have F6 := Lib.hid (F6.out.below hb)
  have F7 := Lib.hid (F7.out.below hb)
  have F137 := Lib.hid (F137.out.below hb)
  have F139 := Lib.hid hnew
  clear ho hb hnew
  have hal : Below (w3).heap.size (w3) ((w3).alloc (.cells (ints [-2, 1, 2, -1, -1]).toArray 3)) := (Below.refl _ _).alloc (Nat.le_refl _) _
  have hnew := IntsB.lit (base := w.heap.size + 1) (w3) [-2, 1, 2, -1, -1] (fits_lit (by decide)) (n := 5) rfl (by omega) HS.out.lt
  have HS := Lib.hid (HS.out.below' hal)
  have F4 := Lib.hid (F4.out.below hal)
  have F5 := Lib.hid (F5.out.below hal)
  have F6 := Lib.hid (F6.out.below hal)
  have F7 := Lib.hid (F7.out.below hal)
  have F137 := Lib.hid (F137.out.below hal)
  have F139 := Lib.hid (F139.out.below hal)
  have F140 := Lib.hid hnew
  clear hal hnew
  have hrow : ∀ i, i < 3 → IntsB (w.heap.size + 1) ((w3).alloc (.cells (ints [-2, 1, 2, -1, -1]).toArray 3)) (([.slice A137 5 c137, .slice A139 4 c139, .slice (some ⟨w3.heap.size, 0, none⟩) 5 5] : List Value).getD i undef) (([powW [1] 5, powW [2] 4, [-2, 1, 2, -1, -1]] : List W).getD i []) := fun i hi => by
    have : i = 0 ∨ i = 1 ∨ i = 2 := by omega
    rcases this with rfl | rfl | rfl
    · exact F137.out
    · exact F139.out
    · exact F140.out
  have hend := known_end HS.out (us := [.slice A137 5 c137, .slice A139 4 c139, .slice (some ⟨w3.heap.size, 0, none⟩) 5 5]) (xs := [powW [1] 5, powW [2] 4, [-2, 1, 2, -1, -1]]) (n := 3) rfl rfl hrow (by omega) 2
  simp only [World.size_alloc] at hend
  have HEND := Lib.hid hend
  clear hend hrow
  go_wp2_with ((with_reducible refine wpList_sel 142 ?_); refine wpList_val rfl (r_build40s _ (.tmp 141) 2 _ _ _ rfl rfl rfl) ?_; refine wpList_skip rfl (r_store40 (.tmp 2) (.tmp 142) rfl w.heap.size zero40 _ rfl rfl HEND.out.1 rfl rfl (one40 _ _ _ _)) ?_)
  try simp only [Exit.inBlock, Exit.then]
  refine bodyPost_ret (results_40_tmp (p := 2) (q := 3) rfl _ _ w.heap.size _ (.int .i64 20) rfl rfl (setRow_heap _ _ _ _ _ _ HEND.out.1) rfl) rfl ⟨⟨_, _, rfl, HEND.out.2.1⟩, HEND.out.2.2⟩
set_option maxRecDepth 100000 in
set_option maxHeartbeats 2000000 in
theorem known60_13 (w : World) (x : Int) (hx : x % 14 = 13) : Calls Try.prog 60 #[.int .i64 x] w (KnownPost 2 [powW [1] 7, powW [2] 3, [-2, 1, 2, -1, -1]] 21 w) := by
  have HT : Hid (∀ W, Calls Try.prog 59 #[.int .i64 x, .int .i64 14] W fun e w' => e = .returned (.int .i64 13) ∧ w' = W) := Lib.hid fun W => by
    have := turn59_any W x 14 (by omega)
    rwa [show ((14 : Nat) : Int) = 14 from rfl, hx] at this
  clear hx
  unfold KnownPost
  go_enter Try.func60, Try.ntmps60
  go_wp2_with ((with_reducible refine wpList_sel 2 ?_); refine wpList_val rfl (r_alloc40 rfl) ?_)
  refine (HT.out _).mono ?_
  rintro e w1 ⟨rfl, h0⟩
  obtain ⟨hS, f4, f5, f6, f7⟩ := known_start w w1 h0
  have HS := Lib.hid hS
  have F4 := Lib.hid f4
  have F5 := Lib.hid f5
  have F6 := Lib.hid f6
  have F7 := Lib.hid f7
  clear hS f4 f5 f6 f7 h0
  go_wp2_with fail
  refine (powerK _ _ [1] 7 7 F4.out.at_ (by omega) (by decide) rfl).mono ?_
  rintro e w2 ⟨A144, c144, rfl, ho, hb⟩
  have hnew := IntsB.own (base := w.heap.size + 1) ho (fits_lit (by decide)) HS.out.lt
  have HS := Lib.hid (HS.out.below' hb)
  have F4 := Lib.hid (F4.out.below hb)
  have F5 := Lib.hid (F5.out.below hb)
  have F6 := Lib.hid (F6.out.below hb)
  have F7 := Lib.hid (F7.out.below hb)
  have F144 := Lib.hid hnew
  clear ho hb hnew
  go_wp2_with fail
  refine (powerK _ _ [2] 3 3 F5.out.at_ (by omega) (by decide) rfl).mono ?_
  rintro e w3 ⟨A146, c146, rfl, ho, hb⟩
  have hnew := IntsB.own (base := w.heap.size + 1) ho (fits_lit (by decide)) HS.out.lt
  have HS := Lib.hid (HS.out.below' hb)
  have F4 := Lib.hid (F4.out.below hb)
  have F5 := Lib.hid (F5.out.below hb)
  have F6 := Lib.hid (F6.out.below hb)
  have F7 := Lib.hid (F7.out.below hb)
  have F144 := Lib.hid (F144.out.below hb)
  have F146 := Lib.hid hnew
  clear ho hb hnew
  have hal : Below (w3).heap.size (w3) ((w3).alloc (.cells (ints [-2, 1, 2, -1, -1]).toArray 3)) := (Below.refl _ _).alloc (Nat.le_refl _) _
  have hnew := IntsB.lit (base := w.heap.size + 1) (w3) [-2, 1, 2, -1, -1] (fits_lit (by decide)) (n := 5) rfl (by omega) HS.out.lt
  have HS := Lib.hid (HS.out.below' hal)
  have F4 := Lib.hid (F4.out.below hal)
  have F5 := Lib.hid (F5.out.below hal)
  have F6 := Lib.hid (F6.out.below hal)
  have F7 := Lib.hid (F7.out.below hal)
  have F144 := Lib.hid (F144.out.below hal)
  have F146 := Lib.hid (F146.out.below hal)
  have F147 := Lib.hid hnew
  clear hal hnew
  have hrow : ∀ i, i < 3 → IntsB (w.heap.size + 1) ((w3).alloc (.cells (ints [-2, 1, 2, -1, -1]).toArray 3)) (([.slice A144 7 c144, .slice A146 3 c146, .slice (some ⟨w3.heap.size, 0, none⟩) 5 5] : List Value).getD i undef) (([powW [1] 7, powW [2] 3, [-2, 1, 2, -1, -1]] : List W).getD i []) := fun i hi => by
    have : i = 0 ∨ i = 1 ∨ i = 2 := by omega
    rcases this with rfl | rfl | rfl
    · exact F144.out
    · exact F146.out
    · exact F147.out
  have hend := known_end HS.out (us := [.slice A144 7 c144, .slice A146 3 c146, .slice (some ⟨w3.heap.size, 0, none⟩) 5 5]) (xs := [powW [1] 7, powW [2] 3, [-2, 1, 2, -1, -1]]) (n := 3) rfl rfl hrow (by omega) 2
  simp only [World.size_alloc] at hend
  have HEND := Lib.hid hend
  clear hend hrow
  go_wp2_with ((with_reducible refine wpList_sel 149 ?_); refine wpList_val rfl (r_build40s _ (.tmp 148) 2 _ _ _ rfl rfl rfl) ?_; refine wpList_skip rfl (r_store40 (.tmp 2) (.tmp 149) rfl w.heap.size zero40 _ rfl rfl HEND.out.1 rfl rfl (one40 _ _ _ _)) ?_)
  try simp only [Exit.inBlock, Exit.then]
  refine bodyPost_ret (results_40_tmp (p := 2) (q := 3) rfl _ _ w.heap.size _ (.int .i64 21) rfl rfl (setRow_heap _ _ _ _ _ _ HEND.out.1) rfl) rfl ⟨⟨_, _, rfl, HEND.out.2.1⟩, HEND.out.2.2⟩
end Go.Proofs
namespace Go.Proofs
open Go.RowKit Go.Shelf Go.Proofs.Ct Go.Maps
def knownE (x : Int) : Int × List W × Int := knownT (x % 14).toNat
theorem known60_any (w : World) (x : Int) : Calls Try.prog 60 #[.int .i64 x] w (KnownPost (knownE x).1 (knownE x).2.1 (knownE x).2.2 w) := by
  have h1 := Int.emod_nonneg x (show (14 : Int) ≠ 0 by omega)
  have h2 := Int.emod_lt_of_pos x (show (0 : Int) < 14 by omega)
  unfold knownE
  have : x % 14 = 0 ∨ x % 14 = 1 ∨ x % 14 = 2 ∨ x % 14 = 3 ∨ x % 14 = 4 ∨ x % 14 = 5 ∨ x % 14 = 6 ∨ x % 14 = 7 ∨ x % 14 = 8 ∨ x % 14 = 9 ∨ x % 14 = 10 ∨ x % 14 = 11 ∨ x % 14 = 12 ∨ x % 14 = 13 := by omega
  rcases this with h | h | h | h | h | h | h | h | h | h | h | h | h | h
  · rw [h]; exact known60_0 w x h
  · rw [h]; exact known60_1 w x h
  · rw [h]; exact known60_2 w x h
  · rw [h]; exact known60_3 w x h
  · rw [h]; exact known60_4 w x h
  · rw [h]; exact known60_5 w x h
  · rw [h]; exact known60_6 w x h
  · rw [h]; exact known60_7 w x h
  · rw [h]; exact known60_8 w x h
  · rw [h]; exact known60_9 w x h
  · rw [h]; exact known60_10 w x h
  · rw [h]; exact known60_11 w x h
  · rw [h]; exact known60_12 w x h
  · rw [h]; exact known60_13 w x h
end Go.Proofs
namespace Go.Proofs
open Go.RowKit Go.Shelf Go.Proofs.Ct Go.Maps
/-- the presentation of a law: a known one, or one that numbers select -/
def givenP (m : Nat) (which : Int) (l : List Int) : Int × List W :=
  if which.tmod 2 = 0 then ((knownE (which.tdiv 2)).1, (knownE (which.tdiv 2)).2.1) else (1 + which.tdiv 2 % 3, lawWords (1 + which.tdiv 2 % 3).toNat m l)
def GivenPost (P : Int × List W) (w : World) (e : Ending) (w' : World) : Prop := (∃ A c, e = .returned (.agg #[.int .i64 P.1, .slice A P.2.length c]) ∧ Tab w' (.slice A P.2.length c) P.2) ∧ Below w.heap.size w w'
set_option maxRecDepth 100000 in
set_option maxHeartbeats 1000000 in
theorem given57_any (w : World) (which : Int) (v : Value) (l : List Int) (h : IntsAt w v l) (hl : l.length ≤ 100000) (hw : -9223372036854775808 ≤ which ∧ which ≤ 9223372036854775807) : Calls Try.prog 57 #[.int .i64 which, v] w (GivenPost (givenP 6 which l) w) := by
  have h1 : which.tmod 2 < 2 := Int.tmod_lt_of_pos _ (by omega)
  have h2 : -2 < which.tmod 2 := Int.lt_tmod_of_pos _ (by omega)
  have hd : which.tdiv 2 * 2 + which.tmod 2 = which := Int.tdiv_mul_add_tmod _ _
  obtain ⟨hw1, hw2⟩ := hw
  have hd1 : -9223372036854775808 ≤ which.tdiv 2 := by omega
  have hd2 : which.tdiv 2 ≤ 9223372036854775807 := by omega
  have HI := Lib.hid h
  obtain ⟨A, c, rfl, hc1, hc2, -⟩ := h.open_
  have hb0 : Below w.heap.size w (w.alloc (.cells zero40 40)) := (Below.refl _ _).alloc (Nat.le_refl _) _
  have HB0 := Lib.hid hb0
  have HG0 := Lib.hid (heap_alloc_new w (.cells zero40 40))
  have hsz : (w.alloc (.cells zero40 40)).heap.size = w.heap.size + 1 := World.size_alloc _ _
  have HSZ := Lib.hid hsz
  clear h hb0 hsz
  unfold GivenPost
  by_cases he : which.tmod 2 = 0
  · have HE : Hid (givenP 6 which l = ((knownE (which.tdiv 2)).1, (knownE (which.tdiv 2)).2.1)) := Lib.hid (if_pos he)
    rw [HE.out]
    have HK : Hid (∀ W, Calls Try.prog 60 #[.int .i64 (which.tdiv 2)] W (KnownPost (knownE (which.tdiv 2)).1 (knownE (which.tdiv 2)).2.1 (knownE (which.tdiv 2)).2.2 W)) := Lib.hid fun W => known60_any W _
    unfold KnownPost at HK
    have d1 : (which.tmod 2 == 0) = true := by simpa using he
    clear HE he hd
    generalize (knownE (which.tdiv 2)).1 = p1 at *
    generalize (knownE (which.tdiv 2)).2.1 = p2 at *
    generalize (knownE (which.tdiv 2)).2.2 = p3 at *
    go_enter Try.func57, Try.ntmps57
    go_wp2_with (first
      | ((with_reducible refine wpList_sel 4 ?_); refine wpList_val rfl (r_alloc40 rfl) ?_)
      | (go_at_call 60; (refine (HK.out _).mono ?_); rintro e w2 ⟨⟨A2, c2, rfl, ht⟩, hb⟩
         have HB2 := Lib.hid (bl3 HB0.out hb)
         have HT2 := Lib.hid ht
         have HG2 : Hid (w2.heap[w.heap.size]? = some (.cells zero40 40 (0, 0))) := Lib.hid ((hb.block _ (by rw [HSZ.out]; omega)).trans HG0.out)
         have HS2 : Hid (w.heap.size + 1 ≤ w2.heap.size) := Lib.hid (by have := hb.size; rw [HSZ.out] at this; exact this)
         have HG3 : Hid (∀ cs, ((w2.alloc (.cells zero40 40)).setRow w2.heap.size cs).heap[w.heap.size]? = some (.cells zero40 40 (0, 0))) := Lib.hid fun cs => (setRow_other _ _ _ _ (by have := HS2.out; omega)).trans ((((Below.refl w2.heap.size w2).alloc (Nat.le_refl _) (.cells zero40 40)).block _ (by have := HS2.out; omega)).trans HG2.out)
         clear ht hb)
      | ((with_reducible refine wpList_sel 5 ?_); refine wpList_val rfl (r_alloc40 rfl) ?_)
      | ((with_reducible refine wpList_selStore 40 5 15 ?_); refine wpList_skip rfl (r_store40 (.tmp 5) (.tmp 15) rfl w2.heap.size zero40 _ rfl rfl (heap_alloc_new w2 _) rfl rfl (one40 _ _ _ _)) ?_)
      | ((with_reducible refine wpList_sel 17 ?_); refine wpList_val rfl (r_loadAt 40 (.tmp 5) _ _ rfl rfl (load40 (setRow_heap _ _ _ _ _ _ (heap_alloc_new w2 _)))) ?_)
      | ((with_reducible refine wpList_selStore 40 4 17 ?_); refine wpList_skip rfl (r_store40 (.tmp 4) (.tmp 17) rfl w.heap.size zero40 _ rfl rfl (HG3.out _) rfl rfl (one40 _ _ _ _)) ?_))
    try simp only [Exit.inBlock, Exit.then]
    refine bodyPost_ret (results_40 (p := 4) rfl _ _ w.heap.size _ rfl (setRow_heap _ _ _ _ _ _ (HG3.out _)) rfl) rfl ⟨⟨_, _, rfl, ?_⟩, ?_⟩
    · refine HT2.out _ fun k hk hk2 => ?_
      rw [HSZ.out] at hk
      exact (setRow_other _ _ _ _ (by omega)).trans ((setRow_other _ _ _ _ (by omega)).trans (((Below.refl w2.heap.size w2).alloc (Nat.le_refl _) (.cells zero40 40)).block _ hk2))
    · exact below_setRow (below_setRow (HB2.out.alloc HB2.out.size _) (by have := HS2.out; omega) _) (Nat.le_refl _) _
  · have h3 := Int.emod_nonneg (which.tdiv 2) (show (3 : Int) ≠ 0 by omega)
    have h4 := Int.emod_lt_of_pos (which.tdiv 2) (show (0 : Int) < 3 by omega)
    obtain ⟨m, hm⟩ := Int.eq_ofNat_of_zero_le h3
    have HE : Hid (givenP 6 which l = (((1 + m : Nat) : Int), lawWords (1 + m) 6 l)) := Lib.hid (by
      unfold givenP
      rw [if_neg he, hm, show (1 + (m : Int)).toNat = 1 + m by omega]
      exact Prod.ext (by show (1 : Int) + (m : Int) = ((1 + m : Nat) : Int); omega) (by simp))
    rw [HE.out]
    have hm3 : m < 3 := by omega
    have HT : Hid (∀ W, Calls Try.prog 59 #[.int .i64 (which.tdiv 2), .int .i64 3] W fun e w' => e = .returned (.int .i64 (m : Int)) ∧ w' = W) := Lib.hid fun W => by
      have := turn59_any W (which.tdiv 2) 3 (by omega)
      rwa [show ((3 : Nat) : Int) = 3 from rfl, hm] at this
    have HW : Hid (Calls Try.prog 58 #[.slice A l.length c, .int .i64 (1 + (m : Int))] (w.alloc (.cells zero40 40)) (LawWordsPost (lawWords (1 + m) 6 l) (w.alloc (.cells zero40 40)))) := Lib.hid (by
      rw [show 1 + (m : Int) = ((1 + m : Nat) : Int) by omega]
      exact words58_any _ _ l (1 + m) (kept_ints.below HI.out HB0.out) (by omega) hl)
    unfold LawWordsPost at HW
    have d1 : (which.tmod 2 == 0) = false := by simpa using he
    have hm0 : (0 : Int) ≤ (m : Int) := Int.natCast_nonneg _
    have hm1 : (m : Int) ≤ 2 := by omega
    have hmm : ((1 + m : Nat) : Int) = 1 + (m : Int) := by omega
    rw [hmm]
    clear HE he hd h3 h4 hm hmm
    generalize lawWords (1 + m) 6 l = X at *
    go_enter Try.func57, Try.ntmps57
    go_wp2_with (first
      | ((with_reducible refine wpList_sel 4 ?_); refine wpList_val rfl (r_alloc40 rfl) ?_)
      | (go_at_call 59; (refine (HT.out _).mono ?_); rintro e w1 ⟨rfl, rfl⟩)
      | (go_at_call 58; (refine HW.out.mono ?_); rintro e w2 ⟨⟨A2, c2, rfl, ht⟩, hb⟩
         have HB2 := Lib.hid (bl3 HB0.out hb)
         have HT2 := Lib.hid ht
         have HG2 : Hid (w2.heap[w.heap.size]? = some (.cells zero40 40 (0, 0))) := Lib.hid ((hb.block _ (by rw [HSZ.out]; omega)).trans HG0.out)
         clear ht hb)
      | ((with_reducible refine wpList_sel 26 ?_); refine wpList_val rfl (r_build40s (.tmp 22) (.tmp 25) (1 + (m : Int)) _ _ _ rfl rfl rfl) ?_; refine wpList_skip rfl (r_store40 (.tmp 4) (.tmp 26) rfl w.heap.size zero40 _ rfl rfl HG2.out rfl rfl (one40 _ _ _ _)) ?_))
    try simp only [Exit.inBlock, Exit.then]
    refine bodyPost_ret (results_40 (p := 4) rfl _ _ w.heap.size _ rfl (setRow_heap _ _ _ _ _ _ HG2.out) rfl) rfl ⟨⟨_, _, rfl, ?_⟩, ?_⟩
    · refine HT2.out _ fun k hk _ => ?_
      rw [HSZ.out] at hk
      exact setRow_other _ _ _ _ (by omega)
    · exact below_setRow HB2.out (Nat.le_refl _) _
end Go.Proofs
namespace Go.Proofs.Ct
section
variable {g lim lim' : Nat} {s : St}
theorem fillF_mono : ∀ (fuel fuel' : Nat) {s : St}, Good g lim s → lim < fuel + s.t.length → ∀ {r : Nat}, r < s.t.length → s.rp r = r → ∀ {w : W}, LOk g w → ∀ s', fillF (2 * g) lim fuel s r w = some s' → s'.t.length ≤ lim' → lim' < fuel' + s.t.length → fillF (2 * g) lim' fuel' s r w = some s'
  | 0, _, _, _, _, _, _, _, _, _, s', e, _, _ => by cases e
  | fuel + 1, fuel', s, h, hf, r, hr, hl, w, hw, s', e, hn', hf' => by
    have hE := (fillF_good (fuel + 1) h hf hr hl hw s' e).2.n
    obtain ⟨f', rfl⟩ : ∃ f', fuel' = f' + 1 := ⟨fuel' - 1, by omega⟩
    obtain ⟨a, b⟩ := scan_rest h.rest hr hl hw
    unfold fillF at e ⊢
    cases hsc : scanS (2 * g) s r w with
    | mk s2 o =>
      rw [hsc] at e
      cases o with
      | none => exact e
      | some fc =>
        obtain ⟨f, c⟩ := fc
        simp only at e ⊢
        obtain ⟨-, h2, h3, h4, h5⟩ := b _ _ _ hsc
        split at e
        · cases e
        · rename_i hne
          obtain ⟨k1, k2⟩ := h.defn h2 h3 h4 h5 (by have := h.n2; omega)
          have hn := length_def (s := s) (2 * g) f c
          have hrd : (defS (2 * g) s f c).rp r = r := by rw [rp_def_old h.rest.inv _ _ _ hr]; exact hl
          have hE2 := (fillF_good fuel k1 (by omega) (r := r) (by omega) hrd hw s' e).2.n
          rw [if_neg (by omega)]
          exact fillF_mono fuel f' k1 (by omega) (by omega) hrd hw s' e hn' (by omega)
theorem fill_mono (h : Good g lim s) {r : Nat} (hr : r < s.t.length) (hl : s.rp r = r) {w : W} (hw : LOk g w) {s' : St} (e : fillS (2 * g) lim s r w = some s') (hn : s'.t.length ≤ lim') : fillS (2 * g) lim' s r w = some s' := by
  have h1 := h.n2
  have h2 := (fill_good h hr hl hw e).2.n
  exact fillF_mono _ _ h (by omega) hr hl hw s' e hn (by omega)
theorem optTo_mono {f f' : Nat → St → Option St} {p : Nat → St → Prop} {q : St → Prop} {s : St} (h0 : p 0 s) : ∀ (n : Nat) (_ : ∀ k x y, k < n → p k x → f k x = some y → p (k + 1) y ∧ x.t.length ≤ y.t.length ∧ (y.t.length ≤ lim' → f' k x = some y)) (y : St), optTo f n s = some y → y.t.length ≤ lim' → optTo f' n s = some y
  | 0, _, y, h, _ => h
  | n + 1, hf, y, h, hy => by
    rw [optTo_succ] at h ⊢
    cases hx : optTo f n s with
    | none => rw [hx] at h; cases h
    | some x =>
      rw [hx] at h
      have hp := optTo_inv h0 n (fun k x y hk a b => (hf k x y (by omega) a b).1) x hx
      obtain ⟨-, h2, h3⟩ := hf n x y (Nat.lt_succ_self n) hp h
      rw [optTo_mono (q := q) h0 n (fun k x y hk => hf k x y (by omega)) x hx (by omega)]
      exact h3 hy
theorem rel_mono {rels : List W} (hs : ∀ j, j < rels.length → LOk g (rels.getD j [])) {r : Nat} (h : Good g lim s) (hr : r < s.t.length) {s' : St} {k : Nat} (e : optTo (relS (2 * g) lim rels r) k s = some s') (hn : s'.t.length ≤ lim') : optTo (relS (2 * g) lim' rels r) k s = some s' :=
  optTo_mono (q := fun _ => True) (p := fun _ x => Good g lim x ∧ Ext g s x) ⟨h, Ext.refl h.rest⟩ k (fun i x y _ ⟨hx, hx2⟩ hy => by
    have hrx : r < x.t.length := Nat.lt_of_lt_of_le hr hx2.n
    unfold relS at hy
    by_cases hl : x.rp r = r
    · rw [if_pos hl] at hy
      obtain ⟨a, b⟩ := fill_good hx hrx hl (getD_all hs LOk.nil i) hy
      refine ⟨⟨a, hx2.trans h.rest hx.rest b⟩, b.n, fun hy' => ?_⟩
      unfold relS
      rw [if_pos hl]
      exact fill_mono hx hrx hl (getD_all hs LOk.nil i) hy hy'
    · rw [if_neg hl] at hy
      cases hy
      exact ⟨⟨hx, hx2⟩, Nat.le_refl _, fun _ => by unfold relS; rw [if_neg hl]⟩) s' e hn
theorem col_mono {r : Nat} (h : Good g lim s) (hr : r < s.t.length) {k : Nat} (hk : k ≤ 2 * g) {s' : St} (e : optTo (colS (2 * g) lim r) k s = some s') (hn : s'.t.length ≤ lim') : optTo (colS (2 * g) lim' r) k s = some s' :=
  optTo_mono (q := fun _ => True) (p := fun _ x => Good g lim x ∧ Ext g s x) ⟨h, Ext.refl h.rest⟩ k (fun c x y hc ⟨hx, hx2⟩ hy => by
    have hrx : r < x.t.length := Nat.lt_of_lt_of_le hr hx2.n
    unfold colS at hy
    by_cases hl : x.rp r = r ∧ x.t.at r c < 0
    · rw [if_pos hl] at hy
      by_cases hne : x.t.length = lim
      · rw [if_pos hne] at hy; cases hy
      · rw [if_neg hne] at hy
        cases hy
        obtain ⟨a, b⟩ := hx.defn hrx (by omega) hl.1 hl.2 (by have := hx.n2; omega)
        have hn := length_def (s := x) (2 * g) r c
        refine ⟨⟨a, hx2.trans h.rest hx.rest b⟩, b.n, fun hy' => ?_⟩
        unfold colS
        rw [if_pos hl, if_neg (by omega)]
    · rw [if_neg hl] at hy
      cases hy
      exact ⟨⟨hx, hx2⟩, Nat.le_refl _, fun _ => by unfold colS; rw [if_neg hl]⟩) s' e hn
theorem row_mono {rels : List W} (hs : ∀ j, j < rels.length → LOk g (rels.getD j [])) {r : Nat} (h : Good g lim s) (hr : r < s.t.length) {s' : St} (e : rowS (2 * g) lim rels r s = some s') (hn : s'.t.length ≤ lim') : rowS (2 * g) lim' rels r s = some s' := by
  unfold rowS at e ⊢
  cases hx : optTo (relS (2 * g) lim rels r) rels.length s with
  | none => rw [hx] at e; cases e
  | some x =>
    rw [hx] at e
    obtain ⟨a, b⟩ := rel_good hs h hr hx
    have hrx : r < x.t.length := Nat.lt_of_lt_of_le hr b.n
    have hxl := (col_good a hrx (Nat.le_refl _) e).2.1.n
    rw [rel_mono hs h hr hx (by omega)]
    exact col_mono a hrx (Nat.le_refl _) e hn
theorem sub_mono {sub : List W} (hg : 1 ≤ lim) (hs : ∀ j, j < sub.length → LOk g (sub.getD j [])) {s' : St} {k : Nat} (e : optTo (subS (2 * g) lim sub) k (startS (2 * g)) = some s') (hn : s'.t.length ≤ lim') : optTo (subS (2 * g) lim' sub) k (startS (2 * g)) = some s' :=
  optTo_mono (q := fun _ => True) (p := fun _ s => Good g lim s) (start_good hg) k (fun i x y _ hx hy => by
    have hl := rp_zero hx.rest hx.n1
    obtain ⟨a, b⟩ := fill_good hx hx.n1 hl (getD_all hs LOk.nil i) hy
    exact ⟨a, b.n, fun hy' => fill_mono hx hx.n1 hl (getD_all hs LOk.nil i) hy hy'⟩) s' e hn
/-- steps behind the last row do nothing -/
theorem rows_more {rels : List W} {m lim : Nat} {s x : St} {k : Nat} (h : optTo (rowsS m lim rels) k s = some x) (hk : x.t.length ≤ k) : ∀ d, optTo (rowsS m lim rels) (k + d) s = some x
  | 0 => h
  | d + 1 => by
    show (optTo (rowsS m lim rels) (k + d) s).bind (rowsS m lim rels (k + d)) = some x
    rw [rows_more h hk d]
    show rowsS m lim rels (k + d) x = some x
    unfold rowsS
    rw [if_neg (by omega)]
theorem rows_step {rels : List W} (hr : ∀ j, j < rels.length → LOk g (rels.getD j [])) {r : Nat} {x y : St} (hx : Good g lim x) (hy : rowsS (2 * g) lim rels r x = some y) (hc : Comp g x r) : (Good g lim y ∧ Comp g y (r + 1)) ∧ x.t.length ≤ y.t.length ∧ (y.t.length ≤ lim' → rowsS (2 * g) lim' rels r x = some y) := by
  unfold rowsS at hy
  by_cases hlt : r < x.t.length
  · rw [if_pos hlt] at hy
    obtain ⟨a, b, c⟩ := row_good hr hx hlt hc hy
    refine ⟨⟨a, c⟩, b.n, fun hy' => ?_⟩
    unfold rowsS
    rw [if_pos hlt]
    exact row_mono hr hx hlt hy hy'
  · rw [if_neg hlt] at hy
    cases hy
    exact ⟨⟨hx, fun z _ hzn c hcc => hc z (by omega) hzn c hcc⟩, Nat.le_refl _, fun _ => by unfold rowsS; rw [if_neg hlt]⟩
theorem rows_cut {rels : List W} (hr : ∀ j, j < rels.length → LOk g (rels.getD j [])) {x y : St} (hx : Good g lim x) {n : Nat} (e : optTo (rowsS (2 * g) lim rels) n x = some y) : ∀ k, k ≤ n → ∃ z, optTo (rowsS (2 * g) lim rels) k x = some z ∧ z.t.length ≤ y.t.length := by
  induction n generalizing y with
  | zero => intro k hk; obtain rfl : k = 0 := by omega
            exact ⟨y, e, Nat.le_refl _⟩
  | succ n ih =>
    intro k hk
    by_cases h : k = n + 1
    · subst h; exact ⟨y, e, Nat.le_refl _⟩
    · rw [optTo_succ] at e
      cases hz : optTo (rowsS (2 * g) lim rels) n x with
      | none => rw [hz] at e; cases e
      | some z =>
        rw [hz] at e
        obtain ⟨u, hu, hu2⟩ := ih hz k (by omega)
        obtain ⟨a, b⟩ := optTo_inv (p := fun k x => Good g lim x ∧ Comp g x k) ⟨hx, fun x hx => absurd hx (by omega)⟩ n (fun r x y _ ⟨hx1, hx2⟩ hy => (rows_step (lim' := lim) hr hx1 hy hx2).1) z hz
        have := (rows_step (lim' := lim) hr a e b).2.1
        exact ⟨u, hu, by omega⟩
/-- a greater limit, or one that is just enough, changes nothing -/
theorem run_mono {rels sub : List W} (hg : 1 ≤ lim) (hr : ∀ j, j < rels.length → LOk g (rels.getD j [])) (hs : ∀ j, j < sub.length → LOk g (sub.getD j [])) {s' : St} (e : runS (2 * g) lim rels sub = some s') (hn : s'.t.length ≤ lim') : runS (2 * g) lim' rels sub = some s' := by
  have hgood := (run_good hg hr hs e).1
  unfold runS at e ⊢
  cases hx : optTo (subS (2 * g) lim sub) sub.length (startS (2 * g)) with
  | none => rw [hx] at e; cases e
  | some x =>
    rw [hx] at e
    have hG := sub_good hg hs hx
    have e' : optTo (rowsS (2 * g) lim rels) lim x = some s' := e
    obtain ⟨z, hz, hzl⟩ := rows_cut hr hG e' s'.t.length hgood.n2
    have hm := rows_more hz hzl (lim - s'.t.length)
    rw [show s'.t.length + (lim - s'.t.length) = lim by have := hgood.n2; omega, e'] at hm
    obtain rfl : s' = z := Option.some.inj hm
    obtain ⟨y0, hy0, hxl⟩ := rows_cut hr hG e' 0 (Nat.zero_le _)
    obtain rfl : x = y0 := Option.some.inj hy0
    rw [sub_mono hg hs hx (by omega)]
    have h2 : optTo (rowsS (2 * g) lim' rels) s'.t.length x = some s' := optTo_mono (q := fun _ => True) (p := fun k x => Good g lim x ∧ Comp g x k) ⟨hG, fun x hx => absurd hx (by omega)⟩ _ (fun r x y _ ⟨hx1, hx2⟩ hy => rows_step hr hx1 hy hx2) s' hz hn
    have h3 := rows_more h2 (Nat.le_refl _) (lim' - s'.t.length)
    rw [show s'.t.length + (lim' - s'.t.length) = lim' by omega] at h3
    exact h3
/-- one coset less is not enough -/
theorem run_less {rels sub : List W} (hg : 1 ≤ lim) (hr : ∀ j, j < rels.length → LOk g (rels.getD j [])) (hs : ∀ j, j < sub.length → LOk g (sub.getD j [])) {s' : St} (e : runS (2 * g) lim rels sub = some s') (h1 : 1 ≤ lim') (hn : lim' < s'.t.length) : runS (2 * g) lim' rels sub = none := by
  cases hx : runS (2 * g) lim' rels sub with
  | none => rfl
  | some x =>
    have hgx := (run_good h1 hr hs hx).1.n2
    have hgs := (run_good hg hr hs e).1.n2
    have := run_mono (lim := lim') (lim' := lim) h1 hr hs hx (by omega)
    rw [e] at this
    cases this
    omega
end
end Go.Proofs.Ct
namespace Go.Proofs.Ct
/-- a word leads from x to y -/
def Way (t : Tb) : Nat → W → Nat → Prop
  | x, [], y => x = y
  | x, l :: w, y => ∃ z, Edge t x (col l) z ∧ Way t z w y
section
variable {t : Tb} {g : Nat} {s s0 s1 : St}
theorem way_app {u v : W} : ∀ {x y : Nat}, Way t x (u ++ v) y ↔ ∃ z, Way t x u z ∧ Way t z v y := by
  induction u with
  | nil => intro x y; exact ⟨fun h => ⟨x, rfl, h⟩, fun ⟨z, h1, h2⟩ => by have e : x = z := h1; subst e; exact h2⟩
  | cons l u ih =>
    intro x y
    constructor
    · rintro ⟨z, h1, h2⟩
      obtain ⟨z', h3, h4⟩ := ih.1 h2
      exact ⟨z', ⟨z, h1, h3⟩, h4⟩
    · rintro ⟨z', ⟨z, h1, h3⟩, h4⟩
      exact ⟨z, h1, ih.2 ⟨z', h3, h4⟩⟩
theorem way_one {x y : Nat} {l : Int} : Way t x [l] y ↔ Edge t x (col l) y := ⟨fun ⟨z, h1, h2⟩ => by have e : z = y := h2; subst e; exact h1, fun h => ⟨y, h, rfl⟩⟩
theorem take_snocW {w : W} {k : Nat} (h : k < w.length) : w.take (k + 1) = w.take k ++ [w.getD k 0] := by
  rw [List.take_add_one, List.getD_eq_getElem?_getD, List.getElem?_eq_getElem h]; rfl
theorem way_of_lead {r : Nat} {w : W} : ∀ (k : Nat), k ≤ w.length → 0 ≤ leadTo t r w k → Way t r (w.take k) (leadTo t r w k).toNat
  | 0, _, _ => by
    rw [List.take_zero]
    show r = ((r : Int)).toNat
    omega
  | k + 1, hk, h => by
    rw [leadTo_succ] at h ⊢
    by_cases h1 : leadTo t r w k < 0
    · rw [if_pos h1] at h; omega
    · rw [if_neg h1] at h ⊢
      have ih := way_of_lead (r := r) (w := w) k (by omega) (by omega)
      rw [take_snocW (by omega)]
      refine way_app.2 ⟨_, ih, way_one.2 ?_⟩
      unfold Edge
      omega
theorem lead_of_way {r : Nat} {w : W} : ∀ (k : Nat), k ≤ w.length → ∀ {y : Nat}, Way t r (w.take k) y → leadTo t r w k = (y : Int)
  | 0, _, y, h => by
    rw [List.take_zero] at h
    have e : r = y := h
    subst e; rfl
  | k + 1, hk, y, h => by
    rw [take_snocW (by omega)] at h
    obtain ⟨z, h1, h2⟩ := way_app.1 h
    have ih := lead_of_way k (by omega) h1
    rw [leadTo_succ, ih, if_neg (by omega), Int.toNat_natCast]
    exact way_one.1 h2
theorem leads_iff {r y : Nat} {w : W} : leads t r w = (y : Int) ↔ Way t r w y := by
  constructor
  · intro h
    have := way_of_lead (t := t) (r := r) w.length (Nat.le_refl _) (by show 0 ≤ leads t r w; omega)
    rw [List.take_length] at this
    have e : (leadTo t r w w.length).toNat = y := by show (leads t r w).toNat = y; omega
    rwa [e] at this
  · intro h
    exact lead_of_way w.length (Nat.le_refl _) (by rw [List.take_length]; exact h)
theorem LOk.cons {l : Int} {w : W} (h : LOk g (l :: w)) : (-(g : Int) ≤ l ∧ l ≤ g ∧ l ≠ 0) ∧ LOk g w := ⟨h l (List.mem_cons_self ..), fun x hx => h x (List.mem_cons_of_mem _ hx)⟩
theorem col_ltL {l : Int} (h : -(g : Int) ≤ l ∧ l ≤ g ∧ l ≠ 0) : col l < 2 * g := by unfold col; split <;> omega
theorem inv_cons (l : Int) (w : W) : inv (l :: w) = inv w ++ [-l] := by simp [inv]
theorem inv_inv (w : W) : inv (inv w) = w := by simp [inv, Function.comp_def]
theorem inv_app (u v : W) : inv (u ++ v) = inv v ++ inv u := by simp [inv]
theorem way_inv (h : Inv g s) : ∀ {w : W} {x y : Nat}, LOk g w → x < s.t.length → Way s.t x w y → Way s.t y (inv w) x := by
  intro w
  induction w with
  | nil => intro x y _ _ h; exact Eq.symm h
  | cons l w ih =>
    rintro x y hw hx ⟨z, h1, h2⟩
    rw [inv_cons]
    refine way_app.2 ⟨z, ih hw.cons.2 (h1.lt h hx (col_ltL hw.cons.1)) h2, way_one.2 ?_⟩
    rw [col_inv hw.cons.1.2.2]
    exact h1.back h hx (col_ltL hw.cons.1)
theorem way_ext (h0 : Inv g s0) (h : Ext g s0 s1) : ∀ {w : W} {x y : Nat}, LOk g w → x < s0.t.length → Way s0.t x w y → Way s1.t (s1.rp x) w (s1.rp y) := by
  intro w
  induction w with
  | nil => intro x y _ _ h; have e : x = y := h; subst e; exact rfl
  | cons l w ih =>
    rintro x y hw hx ⟨z, h1, h2⟩
    have hz := h1.lt h0 hx (col_ltL hw.cons.1)
    exact ⟨_, h.edge _ _ _ hx (col_ltL hw.cons.1) h1, ih hw.cons.2 hz h2⟩
/-- a word is closed at a coset -/
def Clo (s : St) (r : Nat) (w : W) : Prop := Way s.t (s.rp r) w (s.rp r)
theorem Clo.ext (h0 : Rest g s0) (h : Ext g s0 s1) {r : Nat} (hr : r < s0.t.length) {w : W} (hw : LOk g w) (hc : Clo s0 r w) : Clo s1 r w := by
  have := way_ext h0.inv h hw (h0.inv.rlt hr) hc
  rwa [h.coarse r hr] at this
theorem drop_inv {w : W} {k : Nat} (hk : k ≤ w.length) : inv ((inv w).take k) = w.drop (w.length - k) := by
  have h1 : inv w = inv (w.drop (w.length - k)) ++ inv (w.take (w.length - k)) := by rw [← inv_app, List.take_append_drop]
  have h2 : (inv (w.drop (w.length - k))).length = k := by rw [length_inv, List.length_drop]; omega
  rw [h1, List.take_append_of_le_length (by omega), List.take_of_length_le (by omega), inv_inv]
theorem scan_closed (h : Rest g s) {r : Nat} (hr : r < s.t.length) (hlr : s.rp r = r) {w : W} (hw : LOk g w) {s' : St} (e : scanS (2 * g) s r w = (s', none)) : Clo s' r w := by
  obtain ⟨f1, f2, f3⟩ := fwd_spec s.t r w
  have fp := fwd_pos s.t r w
  obtain ⟨b1, b2, b3⟩ := bwd_spec s.t r w (fwd s.t r w)
  have bp := bwd_pos s.t r w (fwd s.t r w)
  obtain ⟨fl, flv⟩ := lead_live h hw hr hlr _ f1 fp
  obtain ⟨bl, blv⟩ := lead_live h hw.inv hr hlr _ (by rw [length_inv]; exact b1) bp
  have hF := way_of_lead _ f1 fp
  have hB := way_inv h.inv (fun x hx => hw.inv x (List.mem_of_mem_take hx)) hr (way_of_lead _ (by rw [length_inv]; exact b1) bp)
  rw [drop_inv b1] at hB
  have hnext : fwd s.t r w < w.length → s.t.at (leadTo s.t r w (fwd s.t r w)).toNat (col (w.getD (fwd s.t r w) 0)) < 0 := fun hlt => by
    rcases f2 with f2 | f2
    · omega
    · rw [leadTo_succ, if_neg (by omega)] at f2
      exact f2
  have hback : ¬ w.length ≤ fwd s.t r w + bwd s.t r w (fwd s.t r w) → s.t.at (leadTo s.t r (Ct.inv w) (bwd s.t r w (fwd s.t r w))).toNat (col ((Ct.inv w).getD (bwd s.t r w (fwd s.t r w)) 0)) < 0 := fun hlt => by
    rcases b2 with b2 | b2
    · omega
    · rw [leadTo_succ, if_neg (by omega)] at b2
      exact b2
  have hik : fwd s.t r w + bwd s.t r w (fwd s.t r w) ≤ w.length := by
    rcases Nat.eq_zero_or_pos (bwd s.t r w (fwd s.t r w)) with h0 | h0
    · omega
    · have := (b3 (bwd s.t r w (fwd s.t r w) - 1) (by omega)).1
      omega
  have hwt : ∀ k, LOk g (w.take k) := fun k x hx => hw x (List.mem_of_mem_take hx)
  have hwd : ∀ k, LOk g (w.drop k) := fun k x hx => hw x (List.mem_of_mem_drop hx)
  unfold scanS at e
  generalize hi : fwd s.t r w = i at *
  generalize hk : bwd s.t r w i = k at *
  generalize leadTo s.t r w i = f at *
  generalize leadTo s.t r (Ct.inv w) k = b at *
  unfold Clo
  by_cases h1 : i = w.length
  · rw [if_pos h1] at e
    rw [h1, List.take_length] at hF
    by_cases h2 : f = (r : Int)
    · rw [if_pos h2] at e
      cases e
      rw [hlr]
      rw [h2, Int.toNat_natCast] at hF
      exact hF
    · rw [if_neg h2] at e
      cases e
      obtain ⟨c1, c2, c3, c4⟩ := coin_rest h fl hr
      have := way_ext h.inv (Ext.of_cov c1 c2) hw hr hF
      rwa [c3] at this
  · rw [if_neg h1] at e
    by_cases h2 : w.length ≤ i + k
    · rw [if_pos h2] at e
      cases e
      obtain ⟨c1, c2, c3, c4⟩ := coin_rest h fl bl
      have hE := Ext.of_cov c1 c2
      rw [show w.length - k = i by omega] at hB
      have w1 := way_ext h.inv hE (hwt i) hr hF
      have w2 := way_ext h.inv hE (hwd i) bl hB
      rw [c3] at w1
      have := way_app.2 ⟨_, w1, w2⟩
      rwa [List.take_append_drop] at this
    · rw [if_neg h2] at e
      have hil : i < w.length := by omega
      by_cases h3 : w.length = i + k + 1
      · rw [if_pos h3] at e
        cases e
        have hb := hback h2
        rw [inv_getD (by omega), show w.length - 1 - k = i by omega, col_inv (hw.getD hil).2.2] at hb
        obtain ⟨c1, c2, c3⟩ := h.join fl bl (hw.col hil) flv blv (hnext hil) hb
        rw [show w.length - k = i + 1 by omega] at hB
        have w1 := way_ext h.inv c2 (hwt i) hr hF
        have w2 := way_ext h.inv c2 (hwd (i + 1)) bl hB
        rw [rp_joinS, rp_joinS, hlr, flv] at w1
        rw [rp_joinS, rp_joinS, hlr, blv] at w2
        rw [rp_joinS, hlr]
        have := way_app.2 ⟨_, way_app.2 ⟨_, w1, way_one.2 c3⟩, w2⟩
        rwa [← take_snocW hil, List.take_append_drop] at this
      · rw [if_neg h3] at e
        cases e
end
end Go.Proofs.Ct
