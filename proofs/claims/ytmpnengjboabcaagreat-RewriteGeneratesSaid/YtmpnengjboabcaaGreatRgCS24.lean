/- The walk of Known, cases 0 to 6; The walk of Known, cases 7 to 13; Known; given of chapter 18. -/
import Derived.Test.YtmpnengjboabcaaGreatRgCS23
namespace Go.Proofs
open Go.RowKit Go.Shelf Go.Proofs.Ct Go.Maps
set_option maxRecDepth 100000 in
set_option maxHeartbeats 2000000 in
theorem known60_0 (w : World) (x : Int) (hx : x % 14 = 0) : Calls Tryz.prog 13 #[.int .i64 x] w (KnownPost 1 [powW [1] 7] 7 w) := by
  have HT : Hid (∀ W, Calls Tryz.prog 21 #[.int .i64 x, .int .i64 14] W fun e w' => e = .returned (.int .i64 0) ∧ w' = W) := Lib.hid fun W => by
    have := turn59_any W x 14 (by omega)
    rwa [show ((14 : Nat) : Int) = 14 from rfl, hx] at this
  clear hx
  unfold KnownPost
  go_enter Tryz.func13, Tryz.ntmps13
  go_wp2_with ((with_reducible refine wpList_sel 2 ?_); refine wpList_val rfl (r_alloc40 rfl) ?_)
  refine (HT.out _).mono ?_
  rintro e w1 ⟨rfl, h0⟩
  obtain ⟨hS, f4, f5, f6, f7⟩ := known_start w w1 h0
  have HS := Lib.hid hS
  have F4 := Lib.hid f4
  have F5 := Lib.hid f5
  have F6 := Lib.hid f6
  have F7 := Lib.hid f7
  clear hS f4 f5 f6 f7 h0
  go_wp2_with fail
  refine (powerK _ _ [1] 7 7 F4.out.at_ (by omega) (by decide) rfl).mono ?_
  rintro e w2 ⟨A17, c17, rfl, ho, hb⟩
  have hnew := IntsB.own (base := w.heap.size + 1) ho (fits_lit (by decide)) HS.out.lt
  have HS := Lib.hid (HS.out.below' hb)
  have F4 := Lib.hid (F4.out.below hb)
  have F5 := Lib.hid (F5.out.below hb)
  have F6 := Lib.hid (F6.out.below hb)
  have F7 := Lib.hid (F7.out.below hb)
  have F17 := Lib.hid hnew
  clear ho hb hnew
  have hrow : ∀ i, i < 1 → IntsB (w.heap.size + 1) (w2) (([.slice A17 7 c17] : List Value).getD i undef) (([powW [1] 7] : List W).getD i []) := fun i hi => by
    have : i = 0 := by omega
    rcases this with rfl
    · exact F17.out
  have hend := known_end HS.out (us := [.slice A17 7 c17]) (xs := [powW [1] 7]) (n := 1) rfl rfl hrow (by omega) 1
  have HEND := Lib.hid hend
  clear hend hrow
  go_wp2_with ((with_reducible refine wpList_sel 19 ?_); refine wpList_val rfl (r_build40s _ (.tmp 18) 1 _ _ _ rfl rfl rfl) ?_; refine wpList_skip rfl (r_store40 (.tmp 2) (.tmp 19) rfl w.heap.size zero40 _ rfl rfl HEND.out.1 rfl rfl (one40 _ _ _ _)) ?_)
  try simp only [Exit.inBlock, Exit.then]
  refine bodyPost_ret (results_40_tmp (p := 2) (q := 3) rfl _ _ w.heap.size _ (.int .i64 7) rfl rfl (setRow_heap _ _ _ _ _ _ HEND.out.1) rfl) rfl ⟨⟨_, _, rfl, HEND.out.2.1⟩, HEND.out.2.2⟩
set_option maxRecDepth 100000 in
set_option maxHeartbeats 2000000 in
theorem known60_1 (w : World) (x : Int) (hx : x % 14 = 1) : Calls Tryz.prog 13 #[.int .i64 x] w (KnownPost 2 [powW [1] 2, powW [2] 2, powW [1, 2] 5] 10 w) := by
  have HT : Hid (∀ W, Calls Tryz.prog 21 #[.int .i64 x, .int .i64 14] W fun e w' => e = .returned (.int .i64 1) ∧ w' = W) := Lib.hid fun W => by
    have := turn59_any W x 14 (by omega)
    rwa [show ((14 : Nat) : Int) = 14 from rfl, hx] at this
  clear hx
  unfold KnownPost
  go_enter Tryz.func13, Tryz.ntmps13
  go_wp2_with ((with_reducible refine wpList_sel 2 ?_); refine wpList_val rfl (r_alloc40 rfl) ?_)
  refine (HT.out _).mono ?_
  rintro e w1 ⟨rfl, h0⟩
  obtain ⟨hS, f4, f5, f6, f7⟩ := known_start w w1 h0
  have HS := Lib.hid hS
  have F4 := Lib.hid f4
  have F5 := Lib.hid f5
  have F6 := Lib.hid f6
  have F7 := Lib.hid f7
  clear hS f4 f5 f6 f7 h0
  go_wp2_with fail
  refine (powerK _ _ [1] 2 2 F4.out.at_ (by omega) (by decide) rfl).mono ?_
  rintro e w2 ⟨A23, c23, rfl, ho, hb⟩
  have hnew := IntsB.own (base := w.heap.size + 1) ho (fits_lit (by decide)) HS.out.lt
  have HS := Lib.hid (HS.out.below' hb)
  have F4 := Lib.hid (F4.out.below hb)
  have F5 := Lib.hid (F5.out.below hb)
  have F6 := Lib.hid (F6.out.below hb)
  have F7 := Lib.hid (F7.out.below hb)
  have F23 := Lib.hid hnew
  clear ho hb hnew
  go_wp2_with fail
  refine (powerK _ _ [2] 2 2 F5.out.at_ (by omega) (by decide) rfl).mono ?_
  rintro e w3 ⟨A25, c25, rfl, ho, hb⟩
  have hnew := IntsB.own (base := w.heap.size + 1) ho (fits_lit (by decide)) HS.out.lt
  have HS := Lib.hid (HS.out.below' hb)
  have F4 := Lib.hid (F4.out.below hb)
  have F5 := Lib.hid (F5.out.below hb)
  have F6 := Lib.hid (F6.out.below hb)
  have F7 := Lib.hid (F7.out.below hb)
  have F23 := Lib.hid (F23.out.below hb)
  have F25 := Lib.hid hnew
  clear ho hb hnew
  go_wp2_with fail
  refine (powerK _ _ [1, 2] 5 10 F6.out.at_ (by omega) (by decide) rfl).mono ?_
  rintro e w4 ⟨A27, c27, rfl, ho, hb⟩
  have hnew := IntsB.own (base := w.heap.size + 1) ho (fits_lit (by decide)) HS.out.lt
  have HS := Lib.hid (HS.out.below' hb)
  have F4 := Lib.hid (F4.out.below hb)
  have F5 := Lib.hid (F5.out.below hb)
  have F6 := Lib.hid (F6.out.below hb)
  have F7 := Lib.hid (F7.out.below hb)
  have F23 := Lib.hid (F23.out.below hb)
  have F25 := Lib.hid (F25.out.below hb)
  have F27 := Lib.hid hnew
  clear ho hb hnew
  have hrow : ∀ i, i < 3 → IntsB (w.heap.size + 1) (w4) (([.slice A23 2 c23, .slice A25 2 c25, .slice A27 10 c27] : List Value).getD i undef) (([powW [1] 2, powW [2] 2, powW [1, 2] 5] : List W).getD i []) := fun i hi => by
    have : i = 0 ∨ i = 1 ∨ i = 2 := by omega
    rcases this with rfl | rfl | rfl
    · exact F23.out
    · exact F25.out
    · exact F27.out
  have hend := known_end HS.out (us := [.slice A23 2 c23, .slice A25 2 c25, .slice A27 10 c27]) (xs := [powW [1] 2, powW [2] 2, powW [1, 2] 5]) (n := 3) rfl rfl hrow (by omega) 2
  have HEND := Lib.hid hend
  clear hend hrow
  go_wp2_with ((with_reducible refine wpList_sel 29 ?_); refine wpList_val rfl (r_build40s _ (.tmp 28) 2 _ _ _ rfl rfl rfl) ?_; refine wpList_skip rfl (r_store40 (.tmp 2) (.tmp 29) rfl w.heap.size zero40 _ rfl rfl HEND.out.1 rfl rfl (one40 _ _ _ _)) ?_)
  try simp only [Exit.inBlock, Exit.then]
  refine bodyPost_ret (results_40_tmp (p := 2) (q := 3) rfl _ _ w.heap.size _ (.int .i64 10) rfl rfl (setRow_heap _ _ _ _ _ _ HEND.out.1) rfl) rfl ⟨⟨_, _, rfl, HEND.out.2.1⟩, HEND.out.2.2⟩
set_option maxRecDepth 100000 in
set_option maxHeartbeats 2000000 in
theorem known60_2 (w : World) (x : Int) (hx : x % 14 = 2) : Calls Tryz.prog 13 #[.int .i64 x] w (KnownPost 2 [powW [1] 2, powW [2] 3, powW [1, 2] 3] 12 w) := by
  have HT : Hid (∀ W, Calls Tryz.prog 21 #[.int .i64 x, .int .i64 14] W fun e w' => e = .returned (.int .i64 2) ∧ w' = W) := Lib.hid fun W => by
    have := turn59_any W x 14 (by omega)
    rwa [show ((14 : Nat) : Int) = 14 from rfl, hx] at this
  clear hx
  unfold KnownPost
  go_enter Tryz.func13, Tryz.ntmps13
  go_wp2_with ((with_reducible refine wpList_sel 2 ?_); refine wpList_val rfl (r_alloc40 rfl) ?_)
  refine (HT.out _).mono ?_
  rintro e w1 ⟨rfl, h0⟩
  obtain ⟨hS, f4, f5, f6, f7⟩ := known_start w w1 h0
  have HS := Lib.hid hS
  have F4 := Lib.hid f4
  have F5 := Lib.hid f5
  have F6 := Lib.hid f6
  have F7 := Lib.hid f7
  clear hS f4 f5 f6 f7 h0
  go_wp2_with fail
  refine (powerK _ _ [1] 2 2 F4.out.at_ (by omega) (by decide) rfl).mono ?_
  rintro e w2 ⟨A33, c33, rfl, ho, hb⟩
  have hnew := IntsB.own (base := w.heap.size + 1) ho (fits_lit (by decide)) HS.out.lt
  have HS := Lib.hid (HS.out.below' hb)
  have F4 := Lib.hid (F4.out.below hb)
  have F5 := Lib.hid (F5.out.below hb)
  have F6 := Lib.hid (F6.out.below hb)
  have F7 := Lib.hid (F7.out.below hb)
  have F33 := Lib.hid hnew
  clear ho hb hnew
  go_wp2_with fail
  refine (powerK _ _ [2] 3 3 F5.out.at_ (by omega) (by decide) rfl).mono ?_
  rintro e w3 ⟨A35, c35, rfl, ho, hb⟩
  have hnew := IntsB.own (base := w.heap.size + 1) ho (fits_lit (by decide)) HS.out.lt
  have HS := Lib.hid (HS.out.below' hb)
  have F4 := Lib.hid (F4.out.below hb)
  have F5 := Lib.hid (F5.out.below hb)
  have F6 := Lib.hid (F6.out.below hb)
  have F7 := Lib.hid (F7.out.below hb)
  have F33 := Lib.hid (F33.out.below hb)
  have F35 := Lib.hid hnew
  clear ho hb hnew
  go_wp2_with fail
  refine (powerK _ _ [1, 2] 3 6 F6.out.at_ (by omega) (by decide) rfl).mono ?_
  rintro e w4 ⟨A37, c37, rfl, ho, hb⟩
  have hnew := IntsB.own (base := w.heap.size + 1) ho (fits_lit (by decide)) HS.out.lt
  have HS := Lib.hid (HS.out.below' hb)
  have F4 := Lib.hid (F4.out.below hb)
  have F5 := Lib.hid (F5.out.below hb)
  have F6 := Lib.hid (F6.out.below hb)
  have F7 := Lib.hid (F7.out.below hb)
  have F33 := Lib.hid (F33.out.below hb)
  have F35 := Lib.hid (F35.out.below hb)
  have F37 := Lib.hid hnew
  clear ho hb hnew
  have hrow : ∀ i, i < 3 → IntsB (w.heap.size + 1) (w4) (([.slice A33 2 c33, .slice A35 3 c35, .slice A37 6 c37] : List Value).getD i undef) (([powW [1] 2, powW [2] 3, powW [1, 2] 3] : List W).getD i []) := fun i hi => by
    have : i = 0 ∨ i = 1 ∨ i = 2 := by omega
    rcases this with rfl | rfl | rfl
    · exact F33.out
    · exact F35.out
    · exact F37.out
  have hend := known_end HS.out (us := [.slice A33 2 c33, .slice A35 3 c35, .slice A37 6 c37]) (xs := [powW [1] 2, powW [2] 3, powW [1, 2] 3]) (n := 3) rfl rfl hrow (by omega) 2
  have HEND := Lib.hid hend
  clear hend hrow
  go_wp2_with ((with_reducible refine wpList_sel 39 ?_); refine wpList_val rfl (r_build40s _ (.tmp 38) 2 _ _ _ rfl rfl rfl) ?_; refine wpList_skip rfl (r_store40 (.tmp 2) (.tmp 39) rfl w.heap.size zero40 _ rfl rfl HEND.out.1 rfl rfl (one40 _ _ _ _)) ?_)
  try simp only [Exit.inBlock, Exit.then]
  refine bodyPost_ret (results_40_tmp (p := 2) (q := 3) rfl _ _ w.heap.size _ (.int .i64 12) rfl rfl (setRow_heap _ _ _ _ _ _ HEND.out.1) rfl) rfl ⟨⟨_, _, rfl, HEND.out.2.1⟩, HEND.out.2.2⟩
set_option maxRecDepth 100000 in
set_option maxHeartbeats 2000000 in
theorem known60_3 (w : World) (x : Int) (hx : x % 14 = 3) : Calls Tryz.prog 13 #[.int .i64 x] w (KnownPost 2 [powW [1] 2, powW [2] 3, powW [1, 2] 4] 24 w) := by
  have HT : Hid (∀ W, Calls Tryz.prog 21 #[.int .i64 x, .int .i64 14] W fun e w' => e = .returned (.int .i64 3) ∧ w' = W) := Lib.hid fun W => by
    have := turn59_any W x 14 (by omega)
    rwa [show ((14 : Nat) : Int) = 14 from rfl, hx] at this
  clear hx
  unfold KnownPost
  go_enter Tryz.func13, Tryz.ntmps13
  go_wp2_with ((with_reducible refine wpList_sel 2 ?_); refine wpList_val rfl (r_alloc40 rfl) ?_)
  refine (HT.out _).mono ?_
  rintro e w1 ⟨rfl, h0⟩
  obtain ⟨hS, f4, f5, f6, f7⟩ := known_start w w1 h0
  have HS := Lib.hid hS
  have F4 := Lib.hid f4
  have F5 := Lib.hid f5
  have F6 := Lib.hid f6
  have F7 := Lib.hid f7
  clear hS f4 f5 f6 f7 h0
  go_wp2_with fail
  refine (powerK _ _ [1] 2 2 F4.out.at_ (by omega) (by decide) rfl).mono ?_
  rintro e w2 ⟨A43, c43, rfl, ho, hb⟩
  have hnew := IntsB.own (base := w.heap.size + 1) ho (fits_lit (by decide)) HS.out.lt
  have HS := Lib.hid (HS.out.below' hb)
  have F4 := Lib.hid (F4.out.below hb)
  have F5 := Lib.hid (F5.out.below hb)
  have F6 := Lib.hid (F6.out.below hb)
  have F7 := Lib.hid (F7.out.below hb)
  have F43 := Lib.hid hnew
  clear ho hb hnew
  go_wp2_with fail
  refine (powerK _ _ [2] 3 3 F5.out.at_ (by omega) (by decide) rfl).mono ?_
  rintro e w3 ⟨A45, c45, rfl, ho, hb⟩
  have hnew := IntsB.own (base := w.heap.size + 1) ho (fits_lit (by decide)) HS.out.lt
  have HS := Lib.hid (HS.out.below' hb)
  have F4 := Lib.hid (F4.out.below hb)
  have F5 := Lib.hid (F5.out.below hb)
  have F6 := Lib.hid (F6.out.below hb)
  have F7 := Lib.hid (F7.out.below hb)
  have F43 := Lib.hid (F43.out.below hb)
  have F45 := Lib.hid hnew
  clear ho hb hnew
  go_wp2_with fail
  refine (powerK _ _ [1, 2] 4 8 F6.out.at_ (by omega) (by decide) rfl).mono ?_
  rintro e w4 ⟨A47, c47, rfl, ho, hb⟩
  have hnew := IntsB.own (base := w.heap.size + 1) ho (fits_lit (by decide)) HS.out.lt
  have HS := Lib.hid (HS.out.below' hb)
  have F4 := Lib.hid (F4.out.below hb)
  have F5 := Lib.hid (F5.out.below hb)
  have F6 := Lib.hid (F6.out.below hb)
  have F7 := Lib.hid (F7.out.below hb)
  have F43 := Lib.hid (F43.out.below hb)
  have F45 := Lib.hid (F45.out.below hb)
  have F47 := Lib.hid hnew
  clear ho hb hnew
  have hrow : ∀ i, i < 3 → IntsB (w.heap.size + 1) (w4) (([.slice A43 2 c43, .slice A45 3 c45, .slice A47 8 c47] : List Value).getD i undef) (([powW [1] 2, powW [2] 3, powW [1, 2] 4] : List W).getD i []) := fun i hi => by
    have : i = 0 ∨ i = 1 ∨ i = 2 := by omega
    rcases this with rfl | rfl | rfl
    · exact F43.out
    · exact F45.out
    · exact F47.out
  have hend := known_end HS.out (us := [.slice A43 2 c43, .slice A45 3 c45, .slice A47 8 c47]) (xs := [powW [1] 2, powW [2] 3, powW [1, 2] 4]) (n := 3) rfl rfl hrow (by omega) 2
  have HEND := Lib.hid hend
  clear hend hrow
  go_wp2_with ((with_reducible refine wpList_sel 49 ?_); refine wpList_val rfl (r_build40s _ (.tmp 48) 2 _ _ _ rfl rfl rfl) ?_; refine wpList_skip rfl (r_store40 (.tmp 2) (.tmp 49) rfl w.heap.size zero40 _ rfl rfl HEND.out.1 rfl rfl (one40 _ _ _ _)) ?_)
  try simp only [Exit.inBlock, Exit.then]
  refine bodyPost_ret (results_40_tmp (p := 2) (q := 3) rfl _ _ w.heap.size _ (.int .i64 24) rfl rfl (setRow_heap _ _ _ _ _ _ HEND.out.1) rfl) rfl ⟨⟨_, _, rfl, HEND.out.2.1⟩, HEND.out.2.2⟩
set_option maxRecDepth 100000 in
set_option maxHeartbeats 2000000 in
theorem known60_4 (w : World) (x : Int) (hx : x % 14 = 4) : Calls Tryz.prog 13 #[.int .i64 x] w (KnownPost 2 [powW [1] 2, powW [2] 3, powW [1, 2] 5] 60 w) := by
  have HT : Hid (∀ W, Calls Tryz.prog 21 #[.int .i64 x, .int .i64 14] W fun e w' => e = .returned (.int .i64 4) ∧ w' = W) := Lib.hid fun W => by
    have := turn59_any W x 14 (by omega)
    rwa [show ((14 : Nat) : Int) = 14 from rfl, hx] at this
  clear hx
  unfold KnownPost
  go_enter Tryz.func13, Tryz.ntmps13
  go_wp2_with ((with_reducible refine wpList_sel 2 ?_); refine wpList_val rfl (r_alloc40 rfl) ?_)
  refine (HT.out _).mono ?_
  rintro e w1 ⟨rfl, h0⟩
  obtain ⟨hS, f4, f5, f6, f7⟩ := known_start w w1 h0
  have HS := Lib.hid hS
  have F4 := Lib.hid f4
  have F5 := Lib.hid f5
  have F6 := Lib.hid f6
  have F7 := Lib.hid f7
  clear hS f4 f5 f6 f7 h0
  go_wp2_with fail
  refine (powerK _ _ [1] 2 2 F4.out.at_ (by omega) (by decide) rfl).mono ?_
  rintro e w2 ⟨A53, c53, rfl, ho, hb⟩
  have hnew := IntsB.own (base := w.heap.size + 1) ho (fits_lit (by decide)) HS.out.lt
  have HS := Lib.hid (HS.out.below' hb)
  have F4 := Lib.hid (F4.out.below hb)
  have F5 := Lib.hid (F5.out.below hb)
  have F6 := Lib.hid (F6.out.below hb)
  have F7 := Lib.hid (F7.out.below hb)
  have F53 := Lib.hid hnew
  clear ho hb hnew
  go_wp2_with fail
  refine (powerK _ _ [2] 3 3 F5.out.at_ (by omega) (by decide) rfl).mono ?_
  rintro e w3 ⟨A55, c55, rfl, ho, hb⟩
  have hnew := IntsB.own (base := w.heap.size + 1) ho (fits_lit (by decide)) HS.out.lt
  have HS := Lib.hid (HS.out.below' hb)
  have F4 := Lib.hid (F4.out.below hb)
  have F5 := Lib.hid (F5.out.below hb)
  have F6 := Lib.hid (F6.out.below hb)
  have F7 := Lib.hid (F7.out.below hb)
  have F53 := Lib.hid (F53.out.below hb)
  have F55 := Lib.hid hnew
  clear ho hb hnew
  go_wp2_with fail
  refine (powerK _ _ [1, 2] 5 10 F6.out.at_ (by omega) (by decide) rfl).mono ?_
  rintro e w4 ⟨A57, c57, rfl, ho, hb⟩
  have hnew := IntsB.own (base := w.heap.size + 1) ho (fits_lit (by decide)) HS.out.lt
  have HS := Lib.hid (HS.out.below' hb)
  have F4 := Lib.hid (F4.out.below hb)
  have F5 := Lib.hid (F5.out.below hb)
  have F6 := Lib.hid (F6.out.below hb)
  have F7 := Lib.hid (F7.out.below hb)
  have F53 := Lib.hid (F53.out.below hb)
  have F55 := Lib.hid (F55.out.below hb)
  have F57 := Lib.hid hnew
  clear ho hb hnew
  have hrow : ∀ i, i < 3 → IntsB (w.heap.size + 1) (w4) (([.slice A53 2 c53, .slice A55 3 c55, .slice A57 10 c57] : List Value).getD i undef) (([powW [1] 2, powW [2] 3, powW [1, 2] 5] : List W).getD i []) := fun i hi => by
    have : i = 0 ∨ i = 1 ∨ i = 2 := by omega
    rcases this with rfl | rfl | rfl
    · exact F53.out
    · exact F55.out
    · exact F57.out
  have hend := known_end HS.out (us := [.slice A53 2 c53, .slice A55 3 c55, .slice A57 10 c57]) (xs := [powW [1] 2, powW [2] 3, powW [1, 2] 5]) (n := 3) rfl rfl hrow (by omega) 2
  have HEND := Lib.hid hend
  clear hend hrow
  go_wp2_with ((with_reducible refine wpList_sel 59 ?_); refine wpList_val rfl (r_build40s _ (.tmp 58) 2 _ _ _ rfl rfl rfl) ?_; refine wpList_skip rfl (r_store40 (.tmp 2) (.tmp 59) rfl w.heap.size zero40 _ rfl rfl HEND.out.1 rfl rfl (one40 _ _ _ _)) ?_)
  try simp only [Exit.inBlock, Exit.then]
  refine bodyPost_ret (results_40_tmp (p := 2) (q := 3) rfl _ _ w.heap.size _ (.int .i64 60) rfl rfl (setRow_heap _ _ _ _ _ _ HEND.out.1) rfl) rfl ⟨⟨_, _, rfl, HEND.out.2.1⟩, HEND.out.2.2⟩
set_option maxRecDepth 100000 in
set_option maxHeartbeats 2000000 in
theorem known60_5 (w : World) (x : Int) (hx : x % 14 = 5) : Calls Tryz.prog 13 #[.int .i64 x] w (KnownPost 2 [powW [1] 4, [1, 1, -2, -2], [-2, 1, 2, 1]] 8 w) := by
  have HT : Hid (∀ W, Calls Tryz.prog 21 #[.int .i64 x, .int .i64 14] W fun e w' => e = .returned (.int .i64 5) ∧ w' = W) := Lib.hid fun W => by
    have := turn59_any W x 14 (by omega)
    rwa [show ((14 : Nat) : Int) = 14 from rfl, hx] at this
  clear hx
  unfold KnownPost
  go_enter Tryz.func13, Tryz.ntmps13
  go_wp2_with ((with_reducible refine wpList_sel 2 ?_); refine wpList_val rfl (r_alloc40 rfl) ?_)
  refine (HT.out _).mono ?_
  rintro e w1 ⟨rfl, h0⟩
  obtain ⟨hS, f4, f5, f6, f7⟩ := known_start w w1 h0
  have HS := Lib.hid hS
  have F4 := Lib.hid f4
  have F5 := Lib.hid f5
  have F6 := Lib.hid f6
  have F7 := Lib.hid f7
  clear hS f4 f5 f6 f7 h0
  go_wp2_with fail
  refine (powerK _ _ [1] 4 4 F4.out.at_ (by omega) (by decide) rfl).mono ?_
  rintro e w2 ⟨A63, c63, rfl, ho, hb⟩
  have hnew := IntsB.own (base := w.heap.size + 1) ho (fits_lit (by decide)) HS.out.lt
  have HS := Lib.hid (HS.out.below' hb)
  have F4 := Lib.hid (F4.out.below hb)
  have F5 := Lib.hid (F5.out.below hb)
  have F6 := Lib.hid (F6.out.below hb)
  have F7 := Lib.hid (F7.out.below hb)
  have F63 := Lib.hid hnew
  clear ho hb hnew
  have hal : Below (w2).heap.size (w2) ((w2).alloc (.cells (ints [1, 1, -2, -2]).toArray 3)) := (Below.refl _ _).alloc (Nat.le_refl _) _
  have hnew := IntsB.lit (base := w.heap.size + 1) (w2) [1, 1, -2, -2] (fits_lit (by decide)) (n := 4) rfl (by omega) HS.out.lt
  have HS := Lib.hid (HS.out.below' hal)
  have F4 := Lib.hid (F4.out.below hal)
  have F5 := Lib.hid (F5.out.below hal)
  have F6 := Lib.hid (F6.out.below hal)
  have F7 := Lib.hid (F7.out.below hal)
  have F63 := Lib.hid (F63.out.below hal)
  have F64 := Lib.hid hnew
  clear hal hnew
  have hal : Below ((w2).alloc (.cells (ints [1, 1, -2, -2]).toArray 3)).heap.size ((w2).alloc (.cells (ints [1, 1, -2, -2]).toArray 3)) (((w2).alloc (.cells (ints [1, 1, -2, -2]).toArray 3)).alloc (.cells (ints [-2, 1, 2, 1]).toArray 3)) := (Below.refl _ _).alloc (Nat.le_refl _) _
  have hnew := IntsB.lit (base := w.heap.size + 1) ((w2).alloc (.cells (ints [1, 1, -2, -2]).toArray 3)) [-2, 1, 2, 1] (fits_lit (by decide)) (n := 4) rfl (by omega) HS.out.lt
  simp only [World.size_alloc] at hnew
  have HS := Lib.hid (HS.out.below' hal)
  have F4 := Lib.hid (F4.out.below hal)
  have F5 := Lib.hid (F5.out.below hal)
  have F6 := Lib.hid (F6.out.below hal)
  have F7 := Lib.hid (F7.out.below hal)
  have F63 := Lib.hid (F63.out.below hal)
  have F64 := Lib.hid (F64.out.below hal)
  have F65 := Lib.hid hnew
  clear hal hnew
  have hrow : ∀ i, i < 3 → IntsB (w.heap.size + 1) (((w2).alloc (.cells (ints [1, 1, -2, -2]).toArray 3)).alloc (.cells (ints [-2, 1, 2, 1]).toArray 3)) (([.slice A63 4 c63, .slice (some ⟨w2.heap.size, 0, none⟩) 4 4, .slice (some ⟨w2.heap.size + 1, 0, none⟩) 4 4] : List Value).getD i undef) (([powW [1] 4, [1, 1, -2, -2], [-2, 1, 2, 1]] : List W).getD i []) := fun i hi => by
    have : i = 0 ∨ i = 1 ∨ i = 2 := by omega
    rcases this with rfl | rfl | rfl
    · exact F63.out
    · exact F64.out
    · exact F65.out
  have hend := known_end HS.out (us := [.slice A63 4 c63, .slice (some ⟨w2.heap.size, 0, none⟩) 4 4, .slice (some ⟨w2.heap.size + 1, 0, none⟩) 4 4]) (xs := [powW [1] 4, [1, 1, -2, -2], [-2, 1, 2, 1]]) (n := 3) rfl rfl hrow (by omega) 2
  simp only [World.size_alloc] at hend
  have HEND := Lib.hid hend
  clear hend hrow
  go_wp2_with ((with_reducible refine wpList_sel 67 ?_); refine wpList_val rfl (r_build40s _ (.tmp 66) 2 _ _ _ rfl rfl rfl) ?_; refine wpList_skip rfl (r_store40 (.tmp 2) (.tmp 67) rfl w.heap.size zero40 _ rfl rfl HEND.out.1 rfl rfl (one40 _ _ _ _)) ?_)
  try simp only [Exit.inBlock, Exit.then]
  refine bodyPost_ret (results_40_tmp (p := 2) (q := 3) rfl _ _ w.heap.size _ (.int .i64 8) rfl rfl (setRow_heap _ _ _ _ _ _ HEND.out.1) rfl) rfl ⟨⟨_, _, rfl, HEND.out.2.1⟩, HEND.out.2.2⟩
set_option maxRecDepth 100000 in
set_option maxHeartbeats 2000000 in
theorem known60_6 (w : World) (x : Int) (hx : x % 14 = 6) : Calls Tryz.prog 13 #[.int .i64 x] w (KnownPost 2 [powW [1] 3, powW [2] 3, powW [1, 2] 3, powW [1, -2] 3] 27 w) := by
  have HT : Hid (∀ W, Calls Tryz.prog 21 #[.int .i64 x, .int .i64 14] W fun e w' => e = .returned (.int .i64 6) ∧ w' = W) := Lib.hid fun W => by
    have := turn59_any W x 14 (by omega)
    rwa [show ((14 : Nat) : Int) = 14 from rfl, hx] at this
  clear hx
  unfold KnownPost
  go_enter Tryz.func13, Tryz.ntmps13
  go_wp2_with ((with_reducible refine wpList_sel 2 ?_); refine wpList_val rfl (r_alloc40 rfl) ?_)
  refine (HT.out _).mono ?_
  rintro e w1 ⟨rfl, h0⟩
  obtain ⟨hS, f4, f5, f6, f7⟩ := known_start w w1 h0
  have HS := Lib.hid hS
  have F4 := Lib.hid f4
  have F5 := Lib.hid f5
  have F6 := Lib.hid f6
  have F7 := Lib.hid f7
  clear hS f4 f5 f6 f7 h0
  go_wp2_with fail
  refine (powerK _ _ [1] 3 3 F4.out.at_ (by omega) (by decide) rfl).mono ?_
  rintro e w2 ⟨A71, c71, rfl, ho, hb⟩
  have hnew := IntsB.own (base := w.heap.size + 1) ho (fits_lit (by decide)) HS.out.lt
  have HS := Lib.hid (HS.out.below' hb)
  have F4 := Lib.hid (F4.out.below hb)
  have F5 := Lib.hid (F5.out.below hb)
  have F6 := Lib.hid (F6.out.below hb)
  have F7 := Lib.hid (F7.out.below hb)
  have F71 := Lib.hid hnew
  clear ho hb hnew
  go_wp2_with fail
  refine (powerK _ _ [2] 3 3 F5.out.at_ (by omega) (by decide) rfl).mono ?_
  rintro e w3 ⟨A73, c73, rfl, ho, hb⟩
  have hnew := IntsB.own (base := w.heap.size + 1) ho (fits_lit (by decide)) HS.out.lt
  have HS := Lib.hid (HS.out.below' hb)
  have F4 := Lib.hid (F4.out.below hb)
  have F5 := Lib.hid (F5.out.below hb)
  have F6 := Lib.hid (F6.out.below hb)
  have F7 := Lib.hid (F7.out.below hb)
  have F71 := Lib.hid (F71.out.below hb)
  have F73 := Lib.hid hnew
  clear ho hb hnew
  go_wp2_with fail
  refine (powerK _ _ [1, 2] 3 6 F6.out.at_ (by omega) (by decide) rfl).mono ?_
  rintro e w4 ⟨A75, c75, rfl, ho, hb⟩
  have hnew := IntsB.own (base := w.heap.size + 1) ho (fits_lit (by decide)) HS.out.lt
  have HS := Lib.hid (HS.out.below' hb)
  have F4 := Lib.hid (F4.out.below hb)
  have F5 := Lib.hid (F5.out.below hb)
  have F6 := Lib.hid (F6.out.below hb)
  have F7 := Lib.hid (F7.out.below hb)
  have F71 := Lib.hid (F71.out.below hb)
  have F73 := Lib.hid (F73.out.below hb)
  have F75 := Lib.hid hnew
  clear ho hb hnew
  have hal : Below (w4).heap.size (w4) ((w4).alloc (.cells (ints [1, -2]).toArray 3)) := (Below.refl _ _).alloc (Nat.le_refl _) _
  have hnew := IntsB.lit (base := w.heap.size + 1) (w4) [1, -2] (fits_lit (by decide)) (n := 2) rfl (by omega) HS.out.lt
  have HS := Lib.hid (HS.out.below' hal)
  have F4 := Lib.hid (F4.out.below hal)
  have F5 := Lib.hid (F5.out.below hal)
  have F6 := Lib.hid (F6.out.below hal)
  have F7 := Lib.hid (F7.out.below hal)
  have F71 := Lib.hid (F71.out.below hal)
  have F73 := Lib.hid (F73.out.below hal)
  have F75 := Lib.hid (F75.out.below hal)
  have F76 := Lib.hid hnew
  clear hal hnew
  go_wp2_with fail
  refine (powerK _ _ [1, -2] 3 6 F76.out.at_ (by omega) (by decide) rfl).mono ?_
  rintro e w5 ⟨A77, c77, rfl, ho, hb⟩
  have hnew := IntsB.own (base := w.heap.size + 1) ho (fits_lit (by decide)) HS.out.lt
  have HS := Lib.hid (HS.out.below' hb)
  have F4 := Lib.hid (F4.out.below hb)
  have F5 := Lib.hid (F5.out.below hb)
  have F6 := Lib.hid (F6.out.below hb)
  have F7 := Lib.hid (F7.out.below hb)
  have F71 := Lib.hid (F71.out.below hb)
  have F73 := Lib.hid (F73.out.below hb)
  have F75 := Lib.hid (F75.out.below hb)
  have F76 := Lib.hid (F76.out.below hb)
  have F77 := Lib.hid hnew
  clear ho hb hnew
  have hrow : ∀ i, i < 4 → IntsB (w.heap.size + 1) (w5) (([.slice A71 3 c71, .slice A73 3 c73, .slice A75 6 c75, .slice A77 6 c77] : List Value).getD i undef) (([powW [1] 3, powW [2] 3, powW [1, 2] 3, powW [1, -2] 3] : List W).getD i []) := fun i hi => by
    have : i = 0 ∨ i = 1 ∨ i = 2 ∨ i = 3 := by omega
    rcases this with rfl | rfl | rfl | rfl
    · exact F71.out
    · exact F73.out
    · exact F75.out
    · exact F77.out
  have hend := known_end HS.out (us := [.slice A71 3 c71, .slice A73 3 c73, .slice A75 6 c75, .slice A77 6 c77]) (xs := [powW [1] 3, powW [2] 3, powW [1, 2] 3, powW [1, -2] 3]) (n := 4) rfl rfl hrow (by omega) 2
  have HEND := Lib.hid hend
  clear hend hrow
  go_wp2_with ((with_reducible refine wpList_sel 79 ?_); refine wpList_val rfl (r_build40s _ (.tmp 78) 2 _ _ _ rfl rfl rfl) ?_; refine wpList_skip rfl (r_store40 (.tmp 2) (.tmp 79) rfl w.heap.size zero40 _ rfl rfl HEND.out.1 rfl rfl (one40 _ _ _ _)) ?_)
  try simp only [Exit.inBlock, Exit.then]
  refine bodyPost_ret (results_40_tmp (p := 2) (q := 3) rfl _ _ w.heap.size _ (.int .i64 27) rfl rfl (setRow_heap _ _ _ _ _ _ HEND.out.1) rfl) rfl ⟨⟨_, _, rfl, HEND.out.2.1⟩, HEND.out.2.2⟩
end Go.Proofs
namespace Go.Proofs
open Go.RowKit Go.Shelf Go.Proofs.Ct Go.Maps
set_option maxRecDepth 100000 in
set_option maxHeartbeats 2000000 in
theorem known60_7 (w : World) (x : Int) (hx : x % 14 = 7) : Calls Tryz.prog 13 #[.int .i64 x] w (KnownPost 2 [powW [1] 4, powW [2] 6, [-1, -2, 1, 2]] 24 w) := by
  have HT : Hid (∀ W, Calls Tryz.prog 21 #[.int .i64 x, .int .i64 14] W fun e w' => e = .returned (.int .i64 7) ∧ w' = W) := Lib.hid fun W => by
    have := turn59_any W x 14 (by omega)
    rwa [show ((14 : Nat) : Int) = 14 from rfl, hx] at this
  clear hx
  unfold KnownPost
  go_enter Tryz.func13, Tryz.ntmps13
  go_wp2_with ((with_reducible refine wpList_sel 2 ?_); refine wpList_val rfl (r_alloc40 rfl) ?_)
  refine (HT.out _).mono ?_
  rintro e w1 ⟨rfl, h0⟩
  obtain ⟨hS, f4, f5, f6, f7⟩ := known_start w w1 h0
  have HS := Lib.hid hS
  have F4 := Lib.hid f4
  have F5 := Lib.hid f5
  have F6 := Lib.hid f6
  have F7 := Lib.hid f7
  clear hS f4 f5 f6 f7 h0
  go_wp2_with fail
  refine (powerK _ _ [1] 4 4 F4.out.at_ (by omega) (by decide) rfl).mono ?_
  rintro e w2 ⟨A83, c83, rfl, ho, hb⟩
  have hnew := IntsB.own (base := w.heap.size + 1) ho (fits_lit (by decide)) HS.out.lt
  have HS := Lib.hid (HS.out.below' hb)
  have F4 := Lib.hid (F4.out.below hb)
  have F5 := Lib.hid (F5.out.below hb)
  have F6 := Lib.hid (F6.out.below hb)
  have F7 := Lib.hid (F7.out.below hb)
  have F83 := Lib.hid hnew
  clear ho hb hnew
  go_wp2_with fail
  refine (powerK _ _ [2] 6 6 F5.out.at_ (by omega) (by decide) rfl).mono ?_
  rintro e w3 ⟨A85, c85, rfl, ho, hb⟩
  have hnew := IntsB.own (base := w.heap.size + 1) ho (fits_lit (by decide)) HS.out.lt
  have HS := Lib.hid (HS.out.below' hb)
  have F4 := Lib.hid (F4.out.below hb)
  have F5 := Lib.hid (F5.out.below hb)
  have F6 := Lib.hid (F6.out.below hb)
  have F7 := Lib.hid (F7.out.below hb)
  have F83 := Lib.hid (F83.out.below hb)
  have F85 := Lib.hid hnew
  clear ho hb hnew
  have hrow : ∀ i, i < 3 → IntsB (w.heap.size + 1) (w3) (([.slice A83 4 c83, .slice A85 6 c85, .slice (some ⟨w.heap.size + 1 + 1 + 1 + 1, 0, none⟩) 4 4] : List Value).getD i undef) (([powW [1] 4, powW [2] 6, [-1, -2, 1, 2]] : List W).getD i []) := fun i hi => by
    have : i = 0 ∨ i = 1 ∨ i = 2 := by omega
    rcases this with rfl | rfl | rfl
    · exact F83.out
    · exact F85.out
    · exact F7.out
  have hend := known_end HS.out (us := [.slice A83 4 c83, .slice A85 6 c85, .slice (some ⟨w.heap.size + 1 + 1 + 1 + 1, 0, none⟩) 4 4]) (xs := [powW [1] 4, powW [2] 6, [-1, -2, 1, 2]]) (n := 3) rfl rfl hrow (by omega) 2
  have HEND := Lib.hid hend
  clear hend hrow
  go_wp2_with ((with_reducible refine wpList_sel 88 ?_); refine wpList_val rfl (r_build40s _ (.tmp 87) 2 _ _ _ rfl rfl rfl) ?_; refine wpList_skip rfl (r_store40 (.tmp 2) (.tmp 88) rfl w.heap.size zero40 _ rfl rfl HEND.out.1 rfl rfl (one40 _ _ _ _)) ?_)
  try simp only [Exit.inBlock, Exit.then]
  refine bodyPost_ret (results_40_tmp (p := 2) (q := 3) rfl _ _ w.heap.size _ (.int .i64 24) rfl rfl (setRow_heap _ _ _ _ _ _ HEND.out.1) rfl) rfl ⟨⟨_, _, rfl, HEND.out.2.1⟩, HEND.out.2.2⟩
set_option maxRecDepth 100000 in
set_option maxHeartbeats 2000000 in
theorem known60_8 (w : World) (x : Int) (hx : x % 14 = 8) : Calls Tryz.prog 13 #[.int .i64 x] w (KnownPost 3 [powW [1] 2, powW [2] 2, [3, 3], powW [1, 2] 3, powW [2, 3] 3, powW [1, 3] 2] 24 w) := by
  have HT : Hid (∀ W, Calls Tryz.prog 21 #[.int .i64 x, .int .i64 14] W fun e w' => e = .returned (.int .i64 8) ∧ w' = W) := Lib.hid fun W => by
    have := turn59_any W x 14 (by omega)
    rwa [show ((14 : Nat) : Int) = 14 from rfl, hx] at this
  clear hx
  unfold KnownPost
  go_enter Tryz.func13, Tryz.ntmps13
  go_wp2_with ((with_reducible refine wpList_sel 2 ?_); refine wpList_val rfl (r_alloc40 rfl) ?_)
  refine (HT.out _).mono ?_
  rintro e w1 ⟨rfl, h0⟩
  obtain ⟨hS, f4, f5, f6, f7⟩ := known_start w w1 h0
  have HS := Lib.hid hS
  have F4 := Lib.hid f4
  have F5 := Lib.hid f5
  have F6 := Lib.hid f6
  have F7 := Lib.hid f7
  clear hS f4 f5 f6 f7 h0
  go_wp2_with fail
  refine (powerK _ _ [1] 2 2 F4.out.at_ (by omega) (by decide) rfl).mono ?_
  rintro e w2 ⟨A92, c92, rfl, ho, hb⟩
  have hnew := IntsB.own (base := w.heap.size + 1) ho (fits_lit (by decide)) HS.out.lt
  have HS := Lib.hid (HS.out.below' hb)
  have F4 := Lib.hid (F4.out.below hb)
  have F5 := Lib.hid (F5.out.below hb)
  have F6 := Lib.hid (F6.out.below hb)
  have F7 := Lib.hid (F7.out.below hb)
  have F92 := Lib.hid hnew
  clear ho hb hnew
  go_wp2_with fail
  refine (powerK _ _ [2] 2 2 F5.out.at_ (by omega) (by decide) rfl).mono ?_
  rintro e w3 ⟨A94, c94, rfl, ho, hb⟩
  have hnew := IntsB.own (base := w.heap.size + 1) ho (fits_lit (by decide)) HS.out.lt
  have HS := Lib.hid (HS.out.below' hb)
  have F4 := Lib.hid (F4.out.below hb)
  have F5 := Lib.hid (F5.out.below hb)
  have F6 := Lib.hid (F6.out.below hb)
  have F7 := Lib.hid (F7.out.below hb)
  have F92 := Lib.hid (F92.out.below hb)
  have F94 := Lib.hid hnew
  clear ho hb hnew
  have hal : Below (w3).heap.size (w3) ((w3).alloc (.cells (ints [3, 3]).toArray 3)) := (Below.refl _ _).alloc (Nat.le_refl _) _
  have hnew := IntsB.lit (base := w.heap.size + 1) (w3) [3, 3] (fits_lit (by decide)) (n := 2) rfl (by omega) HS.out.lt
  have HS := Lib.hid (HS.out.below' hal)
  have F4 := Lib.hid (F4.out.below hal)
  have F5 := Lib.hid (F5.out.below hal)
  have F6 := Lib.hid (F6.out.below hal)
  have F7 := Lib.hid (F7.out.below hal)
  have F92 := Lib.hid (F92.out.below hal)
  have F94 := Lib.hid (F94.out.below hal)
  have F95 := Lib.hid hnew
  clear hal hnew
  go_wp2_with fail
  refine (powerK _ _ [1, 2] 3 6 F6.out.at_ (by omega) (by decide) rfl).mono ?_
  rintro e w4 ⟨A97, c97, rfl, ho, hb⟩
  have hnew := IntsB.own (base := w.heap.size + 1) ho (fits_lit (by decide)) HS.out.lt
  have HS := Lib.hid (HS.out.below' hb)
  have F4 := Lib.hid (F4.out.below hb)
  have F5 := Lib.hid (F5.out.below hb)
  have F6 := Lib.hid (F6.out.below hb)
  have F7 := Lib.hid (F7.out.below hb)
  have F92 := Lib.hid (F92.out.below hb)
  have F94 := Lib.hid (F94.out.below hb)
  have F95 := Lib.hid (F95.out.below hb)
  have F97 := Lib.hid hnew
  clear ho hb hnew
  have hal : Below (w4).heap.size (w4) ((w4).alloc (.cells (ints [2, 3]).toArray 3)) := (Below.refl _ _).alloc (Nat.le_refl _) _
  have hnew := IntsB.lit (base := w.heap.size + 1) (w4) [2, 3] (fits_lit (by decide)) (n := 2) rfl (by omega) HS.out.lt
  have HS := Lib.hid (HS.out.below' hal)
  have F4 := Lib.hid (F4.out.below hal)
  have F5 := Lib.hid (F5.out.below hal)
  have F6 := Lib.hid (F6.out.below hal)
  have F7 := Lib.hid (F7.out.below hal)
  have F92 := Lib.hid (F92.out.below hal)
  have F94 := Lib.hid (F94.out.below hal)
  have F95 := Lib.hid (F95.out.below hal)
  have F97 := Lib.hid (F97.out.below hal)
  have F98 := Lib.hid hnew
  clear hal hnew
  go_wp2_with fail
  refine (powerK _ _ [2, 3] 3 6 F98.out.at_ (by omega) (by decide) rfl).mono ?_
  rintro e w5 ⟨A99, c99, rfl, ho, hb⟩
  have hnew := IntsB.own (base := w.heap.size + 1) ho (fits_lit (by decide)) HS.out.lt
  have HS := Lib.hid (HS.out.below' hb)
  have F4 := Lib.hid (F4.out.below hb)
  have F5 := Lib.hid (F5.out.below hb)
  have F6 := Lib.hid (F6.out.below hb)
  have F7 := Lib.hid (F7.out.below hb)
  have F92 := Lib.hid (F92.out.below hb)
  have F94 := Lib.hid (F94.out.below hb)
  have F95 := Lib.hid (F95.out.below hb)
  have F97 := Lib.hid (F97.out.below hb)
  have F98 := Lib.hid (F98.out.below hb)
  have F99 := Lib.hid hnew
  clear ho hb hnew
  have hal : Below (w5).heap.size (w5) ((w5).alloc (.cells (ints [1, 3]).toArray 3)) := (Below.refl _ _).alloc (Nat.le_refl _) _
  have hnew := IntsB.lit (base := w.heap.size + 1) (w5) [1, 3] (fits_lit (by decide)) (n := 2) rfl (by omega) HS.out.lt
  have HS := Lib.hid (HS.out.below' hal)
  have F4 := Lib.hid (F4.out.below hal)
  have F5 := Lib.hid (F5.out.below hal)
  have F6 := Lib.hid (F6.out.below hal)
  have F7 := Lib.hid (F7.out.below hal)
  have F92 := Lib.hid (F92.out.below hal)
  have F94 := Lib.hid (F94.out.below hal)
  have F95 := Lib.hid (F95.out.below hal)
  have F97 := Lib.hid (F97.out.below hal)
  have F98 := Lib.hid (F98.out.below hal)
  have F99 := Lib.hid (F99.out.below hal)
  have F100 := Lib.hid hnew
  clear hal hnew
  go_wp2_with fail
  refine (powerK _ _ [1, 3] 2 4 F100.out.at_ (by omega) (by decide) rfl).mono ?_
  rintro e w6 ⟨A101, c101, rfl, ho, hb⟩
  have hnew := IntsB.own (base := w.heap.size + 1) ho (fits_lit (by decide)) HS.out.lt
  have HS := Lib.hid (HS.out.below' hb)
  have F4 := Lib.hid (F4.out.below hb)
  have F5 := Lib.hid (F5.out.below hb)
  have F6 := Lib.hid (F6.out.below hb)
  have F7 := Lib.hid (F7.out.below hb)
  have F92 := Lib.hid (F92.out.below hb)
  have F94 := Lib.hid (F94.out.below hb)
  have F95 := Lib.hid (F95.out.below hb)
  have F97 := Lib.hid (F97.out.below hb)
  have F98 := Lib.hid (F98.out.below hb)
  have F99 := Lib.hid (F99.out.below hb)
  have F100 := Lib.hid (F100.out.below hb)
  have F101 := Lib.hid hnew
  clear ho hb hnew
  have hrow : ∀ i, i < 6 → IntsB (w.heap.size + 1) (w6) (([.slice A92 2 c92, .slice A94 2 c94, .slice (some ⟨w3.heap.size, 0, none⟩) 2 2, .slice A97 6 c97, .slice A99 6 c99, .slice A101 4 c101] : List Value).getD i undef) (([powW [1] 2, powW [2] 2, [3, 3], powW [1, 2] 3, powW [2, 3] 3, powW [1, 3] 2] : List W).getD i []) := fun i hi => by
    have : i = 0 ∨ i = 1 ∨ i = 2 ∨ i = 3 ∨ i = 4 ∨ i = 5 := by omega
    rcases this with rfl | rfl | rfl | rfl | rfl | rfl
    · exact F92.out
    · exact F94.out
    · exact F95.out
    · exact F97.out
    · exact F99.out
    · exact F101.out
  have hend := known_end HS.out (us := [.slice A92 2 c92, .slice A94 2 c94, .slice (some ⟨w3.heap.size, 0, none⟩) 2 2, .slice A97 6 c97, .slice A99 6 c99, .slice A101 4 c101]) (xs := [powW [1] 2, powW [2] 2, [3, 3], powW [1, 2] 3, powW [2, 3] 3, powW [1, 3] 2]) (n := 6) rfl rfl hrow (by omega) 3
  have HEND := Lib.hid hend
  clear hend hrow
  go_wp2_with ((with_reducible refine wpList_sel 103 ?_); refine wpList_val rfl (r_build40s _ (.tmp 102) 3 _ _ _ rfl rfl rfl) ?_; refine wpList_skip rfl (r_store40 (.tmp 2) (.tmp 103) rfl w.heap.size zero40 _ rfl rfl HEND.out.1 rfl rfl (one40 _ _ _ _)) ?_)
  try simp only [Exit.inBlock, Exit.then]
  refine bodyPost_ret (results_40_tmp (p := 2) (q := 3) rfl _ _ w.heap.size _ (.int .i64 24) rfl rfl (setRow_heap _ _ _ _ _ _ HEND.out.1) rfl) rfl ⟨⟨_, _, rfl, HEND.out.2.1⟩, HEND.out.2.2⟩
set_option maxRecDepth 100000 in
set_option maxHeartbeats 2000000 in
theorem known60_9 (w : World) (x : Int) (hx : x % 14 = 9) : Calls Tryz.prog 13 #[.int .i64 x] w (KnownPost 2 [powW [1] 2, powW [2] 3, powW [1, 2] 7, powW [-1, -2, 1, 2] 4] 168 w) := by
  have HT : Hid (∀ W, Calls Tryz.prog 21 #[.int .i64 x, .int .i64 14] W fun e w' => e = .returned (.int .i64 9) ∧ w' = W) := Lib.hid fun W => by
    have := turn59_any W x 14 (by omega)
    rwa [show ((14 : Nat) : Int) = 14 from rfl, hx] at this
  clear hx
  unfold KnownPost
  go_enter Tryz.func13, Tryz.ntmps13
  go_wp2_with ((with_reducible refine wpList_sel 2 ?_); refine wpList_val rfl (r_alloc40 rfl) ?_)
  refine (HT.out _).mono ?_
  rintro e w1 ⟨rfl, h0⟩
  obtain ⟨hS, f4, f5, f6, f7⟩ := known_start w w1 h0
  have HS := Lib.hid hS
  have F4 := Lib.hid f4
  have F5 := Lib.hid f5
  have F6 := Lib.hid f6
  have F7 := Lib.hid f7
  clear hS f4 f5 f6 f7 h0
  go_wp2_with fail
  refine (powerK _ _ [1] 2 2 F4.out.at_ (by omega) (by decide) rfl).mono ?_
  rintro e w2 ⟨A107, c107, rfl, ho, hb⟩
  have hnew := IntsB.own (base := w.heap.size + 1) ho (fits_lit (by decide)) HS.out.lt
  have HS := Lib.hid (HS.out.below' hb)
  have F4 := Lib.hid (F4.out.below hb)
  have F5 := Lib.hid (F5.out.below hb)
  have F6 := Lib.hid (F6.out.below hb)
  have F7 := Lib.hid (F7.out.below hb)
  have F107 := Lib.hid hnew
  clear ho hb hnew
  go_wp2_with fail
  refine (powerK _ _ [2] 3 3 F5.out.at_ (by omega) (by decide) rfl).mono ?_
  rintro e w3 ⟨A109, c109, rfl, ho, hb⟩
  have hnew := IntsB.own (base := w.heap.size + 1) ho (fits_lit (by decide)) HS.out.lt
  have HS := Lib.hid (HS.out.below' hb)
  have F4 := Lib.hid (F4.out.below hb)
  have F5 := Lib.hid (F5.out.below hb)
  have F6 := Lib.hid (F6.out.below hb)
  have F7 := Lib.hid (F7.out.below hb)
  have F107 := Lib.hid (F107.out.below hb)
  have F109 := Lib.hid hnew
  clear ho hb hnew
  go_wp2_with fail
  refine (powerK _ _ [1, 2] 7 14 F6.out.at_ (by omega) (by decide) rfl).mono ?_
  rintro e w4 ⟨A111, c111, rfl, ho, hb⟩
  have hnew := IntsB.own (base := w.heap.size + 1) ho (fits_lit (by decide)) HS.out.lt
  have HS := Lib.hid (HS.out.below' hb)
  have F4 := Lib.hid (F4.out.below hb)
  have F5 := Lib.hid (F5.out.below hb)
  have F6 := Lib.hid (F6.out.below hb)
  have F7 := Lib.hid (F7.out.below hb)
  have F107 := Lib.hid (F107.out.below hb)
  have F109 := Lib.hid (F109.out.below hb)
  have F111 := Lib.hid hnew
  clear ho hb hnew
  go_wp2_with fail
  refine (powerK _ _ [-1, -2, 1, 2] 4 16 F7.out.at_ (by omega) (by decide) rfl).mono ?_
  rintro e w5 ⟨A113, c113, rfl, ho, hb⟩
  have hnew := IntsB.own (base := w.heap.size + 1) ho (fits_lit (by decide)) HS.out.lt
  have HS := Lib.hid (HS.out.below' hb)
  have F4 := Lib.hid (F4.out.below hb)
  have F5 := Lib.hid (F5.out.below hb)
  have F6 := Lib.hid (F6.out.below hb)
  have F7 := Lib.hid (F7.out.below hb)
  have F107 := Lib.hid (F107.out.below hb)
  have F109 := Lib.hid (F109.out.below hb)
  have F111 := Lib.hid (F111.out.below hb)
  have F113 := Lib.hid hnew
  clear ho hb hnew
  have hrow : ∀ i, i < 4 → IntsB (w.heap.size + 1) (w5) (([.slice A107 2 c107, .slice A109 3 c109, .slice A111 14 c111, .slice A113 16 c113] : List Value).getD i undef) (([powW [1] 2, powW [2] 3, powW [1, 2] 7, powW [-1, -2, 1, 2] 4] : List W).getD i []) := fun i hi => by
    have : i = 0 ∨ i = 1 ∨ i = 2 ∨ i = 3 := by omega
    rcases this with rfl | rfl | rfl | rfl
    · exact F107.out
    · exact F109.out
    · exact F111.out
    · exact F113.out
  have hend := known_end HS.out (us := [.slice A107 2 c107, .slice A109 3 c109, .slice A111 14 c111, .slice A113 16 c113]) (xs := [powW [1] 2, powW [2] 3, powW [1, 2] 7, powW [-1, -2, 1, 2] 4]) (n := 4) rfl rfl hrow (by omega) 2
  have HEND := Lib.hid hend
  clear hend hrow
  go_wp2_with ((with_reducible refine wpList_sel 115 ?_); refine wpList_val rfl (r_build40s _ (.tmp 114) 2 _ _ _ rfl rfl rfl) ?_; refine wpList_skip rfl (r_store40 (.tmp 2) (.tmp 115) rfl w.heap.size zero40 _ rfl rfl HEND.out.1 rfl rfl (one40 _ _ _ _)) ?_)
  try simp only [Exit.inBlock, Exit.then]
  refine bodyPost_ret (results_40_tmp (p := 2) (q := 3) rfl _ _ w.heap.size _ (.int .i64 168) rfl rfl (setRow_heap _ _ _ _ _ _ HEND.out.1) rfl) rfl ⟨⟨_, _, rfl, HEND.out.2.1⟩, HEND.out.2.2⟩
set_option maxRecDepth 100000 in
set_option maxHeartbeats 2000000 in
theorem known60_10 (w : World) (x : Int) (hx : x % 14 = 10) : Calls Tryz.prog 13 #[.int .i64 x] w (KnownPost 2 [[-2, 1, 2, -1, -1], [-1, 2, 1, -2, -2]] 1 w) := by
  have HT : Hid (∀ W, Calls Tryz.prog 21 #[.int .i64 x, .int .i64 14] W fun e w' => e = .returned (.int .i64 10) ∧ w' = W) := Lib.hid fun W => by
    have := turn59_any W x 14 (by omega)
    rwa [show ((14 : Nat) : Int) = 14 from rfl, hx] at this
  clear hx
  unfold KnownPost
  go_enter Tryz.func13, Tryz.ntmps13
  go_wp2_with ((with_reducible refine wpList_sel 2 ?_); refine wpList_val rfl (r_alloc40 rfl) ?_)
  refine (HT.out _).mono ?_
  rintro e w1 ⟨rfl, h0⟩
  obtain ⟨hS, f4, f5, f6, f7⟩ := known_start w w1 h0
  have HS := Lib.hid hS
  have F4 := Lib.hid f4
  have F5 := Lib.hid f5
  have F6 := Lib.hid f6
  have F7 := Lib.hid f7
  clear hS f4 f5 f6 f7 h0
  have hal : Below (w1).heap.size (w1) ((w1).alloc (.cells (ints [-2, 1, 2, -1, -1]).toArray 3)) := (Below.refl _ _).alloc (Nat.le_refl _) _
  have hnew := IntsB.lit (base := w.heap.size + 1) (w1) [-2, 1, 2, -1, -1] (fits_lit (by decide)) (n := 5) rfl (by omega) HS.out.lt
  have HS := Lib.hid (HS.out.below' hal)
  have F4 := Lib.hid (F4.out.below hal)
  have F5 := Lib.hid (F5.out.below hal)
  have F6 := Lib.hid (F6.out.below hal)
  have F7 := Lib.hid (F7.out.below hal)
  have F118 := Lib.hid hnew
  clear hal hnew
  have hal : Below ((w1).alloc (.cells (ints [-2, 1, 2, -1, -1]).toArray 3)).heap.size ((w1).alloc (.cells (ints [-2, 1, 2, -1, -1]).toArray 3)) (((w1).alloc (.cells (ints [-2, 1, 2, -1, -1]).toArray 3)).alloc (.cells (ints [-1, 2, 1, -2, -2]).toArray 3)) := (Below.refl _ _).alloc (Nat.le_refl _) _
  have hnew := IntsB.lit (base := w.heap.size + 1) ((w1).alloc (.cells (ints [-2, 1, 2, -1, -1]).toArray 3)) [-1, 2, 1, -2, -2] (fits_lit (by decide)) (n := 5) rfl (by omega) HS.out.lt
  simp only [World.size_alloc] at hnew
  have HS := Lib.hid (HS.out.below' hal)
  have F4 := Lib.hid (F4.out.below hal)
  have F5 := Lib.hid (F5.out.below hal)
  have F6 := Lib.hid (F6.out.below hal)
  have F7 := Lib.hid (F7.out.below hal)
  have F118 := Lib.hid (F118.out.below hal)
  have F119 := Lib.hid hnew
  clear hal hnew
  have hrow : ∀ i, i < 2 → IntsB (w.heap.size + 1) (((w1).alloc (.cells (ints [-2, 1, 2, -1, -1]).toArray 3)).alloc (.cells (ints [-1, 2, 1, -2, -2]).toArray 3)) (([.slice (some ⟨w1.heap.size, 0, none⟩) 5 5, .slice (some ⟨w1.heap.size + 1, 0, none⟩) 5 5] : List Value).getD i undef) (([[-2, 1, 2, -1, -1], [-1, 2, 1, -2, -2]] : List W).getD i []) := fun i hi => by
    have : i = 0 ∨ i = 1 := by omega
    rcases this with rfl | rfl
    · exact F118.out
    · exact F119.out
  have hend := known_end HS.out (us := [.slice (some ⟨w1.heap.size, 0, none⟩) 5 5, .slice (some ⟨w1.heap.size + 1, 0, none⟩) 5 5]) (xs := [[-2, 1, 2, -1, -1], [-1, 2, 1, -2, -2]]) (n := 2) rfl rfl hrow (by omega) 2
  simp only [World.size_alloc] at hend
  have HEND := Lib.hid hend
  clear hend hrow
  go_wp2_with ((with_reducible refine wpList_sel 121 ?_); refine wpList_val rfl (r_build40s _ (.tmp 120) 2 _ _ _ rfl rfl rfl) ?_; refine wpList_skip rfl (r_store40 (.tmp 2) (.tmp 121) rfl w.heap.size zero40 _ rfl rfl HEND.out.1 rfl rfl (one40 _ _ _ _)) ?_)
  try simp only [Exit.inBlock, Exit.then]
  refine bodyPost_ret (results_40_tmp (p := 2) (q := 3) rfl _ _ w.heap.size _ (.int .i64 1) rfl rfl (setRow_heap _ _ _ _ _ _ HEND.out.1) rfl) rfl ⟨⟨_, _, rfl, HEND.out.2.1⟩, HEND.out.2.2⟩
set_option maxRecDepth 100000 in
set_option maxHeartbeats 2000000 in
theorem known60_11 (w : World) (x : Int) (hx : x % 14 = 11) : Calls Tryz.prog 13 #[.int .i64 x] w (KnownPost 3 [powW [1] 2, powW [2] 2, [3, 3], [-1, -2, 1, 2], [-1, -3, 1, 3], [-2, -3, 2, 3]] 8 w) := by
  have HT : Hid (∀ W, Calls Tryz.prog 21 #[.int .i64 x, .int .i64 14] W fun e w' => e = .returned (.int .i64 11) ∧ w' = W) := Lib.hid fun W => by
    have := turn59_any W x 14 (by omega)
    rwa [show ((14 : Nat) : Int) = 14 from rfl, hx] at this
  clear hx
  unfold KnownPost
  go_enter Tryz.func13, Tryz.ntmps13
  go_wp2_with ((with_reducible refine wpList_sel 2 ?_); refine wpList_val rfl (r_alloc40 rfl) ?_)
  refine (HT.out _).mono ?_
  rintro e w1 ⟨rfl, h0⟩
  obtain ⟨hS, f4, f5, f6, f7⟩ := known_start w w1 h0
  have HS := Lib.hid hS
  have F4 := Lib.hid f4
  have F5 := Lib.hid f5
  have F6 := Lib.hid f6
  have F7 := Lib.hid f7
  clear hS f4 f5 f6 f7 h0
  go_wp2_with fail
  refine (powerK _ _ [1] 2 2 F4.out.at_ (by omega) (by decide) rfl).mono ?_
  rintro e w2 ⟨A125, c125, rfl, ho, hb⟩
  have hnew := IntsB.own (base := w.heap.size + 1) ho (fits_lit (by decide)) HS.out.lt
  have HS := Lib.hid (HS.out.below' hb)
  have F4 := Lib.hid (F4.out.below hb)
  have F5 := Lib.hid (F5.out.below hb)
  have F6 := Lib.hid (F6.out.below hb)
  have F7 := Lib.hid (F7.out.below hb)
  have F125 := Lib.hid hnew
  clear ho hb hnew
  go_wp2_with fail
  refine (powerK _ _ [2] 2 2 F5.out.at_ (by omega) (by decide) rfl).mono ?_
  rintro e w3 ⟨A127, c127, rfl, ho, hb⟩
  have hnew := IntsB.own (base := w.heap.size + 1) ho (fits_lit (by decide)) HS.out.lt
  have HS := Lib.hid (HS.out.below' hb)
  have F4 := Lib.hid (F4.out.below hb)
  have F5 := Lib.hid (F5.out.below hb)
  have F6 := Lib.hid (F6.out.below hb)
  have F7 := Lib.hid (F7.out.below hb)
  have F125 := Lib.hid (F125.out.below hb)
  have F127 := Lib.hid hnew
  clear ho hb hnew
  have hal : Below (w3).heap.size (w3) ((w3).alloc (.cells (ints [3, 3]).toArray 3)) := (Below.refl _ _).alloc (Nat.le_refl _) _
  have hnew := IntsB.lit (base := w.heap.size + 1) (w3) [3, 3] (fits_lit (by decide)) (n := 2) rfl (by omega) HS.out.lt
  have HS := Lib.hid (HS.out.below' hal)
  have F4 := Lib.hid (F4.out.below hal)
  have F5 := Lib.hid (F5.out.below hal)
  have F6 := Lib.hid (F6.out.below hal)
  have F7 := Lib.hid (F7.out.below hal)
  have F125 := Lib.hid (F125.out.below hal)
  have F127 := Lib.hid (F127.out.below hal)
  have F128 := Lib.hid hnew
  clear hal hnew
  have hal : Below ((w3).alloc (.cells (ints [3, 3]).toArray 3)).heap.size ((w3).alloc (.cells (ints [3, 3]).toArray 3)) (((w3).alloc (.cells (ints [3, 3]).toArray 3)).alloc (.cells (ints [-1, -3, 1, 3]).toArray 3)) := (Below.refl _ _).alloc (Nat.le_refl _) _
  have hnew := IntsB.lit (base := w.heap.size + 1) ((w3).alloc (.cells (ints [3, 3]).toArray 3)) [-1, -3, 1, 3] (fits_lit (by decide)) (n := 4) rfl (by omega) HS.out.lt
  simp only [World.size_alloc] at hnew
  have HS := Lib.hid (HS.out.below' hal)
  have F4 := Lib.hid (F4.out.below hal)
  have F5 := Lib.hid (F5.out.below hal)
  have F6 := Lib.hid (F6.out.below hal)
  have F7 := Lib.hid (F7.out.below hal)
  have F125 := Lib.hid (F125.out.below hal)
  have F127 := Lib.hid (F127.out.below hal)
  have F128 := Lib.hid (F128.out.below hal)
  have F130 := Lib.hid hnew
  clear hal hnew
  have hal : Below (((w3).alloc (.cells (ints [3, 3]).toArray 3)).alloc (.cells (ints [-1, -3, 1, 3]).toArray 3)).heap.size (((w3).alloc (.cells (ints [3, 3]).toArray 3)).alloc (.cells (ints [-1, -3, 1, 3]).toArray 3)) ((((w3).alloc (.cells (ints [3, 3]).toArray 3)).alloc (.cells (ints [-1, -3, 1, 3]).toArray 3)).alloc (.cells (ints [-2, -3, 2, 3]).toArray 3)) := (Below.refl _ _).alloc (Nat.le_refl _) _
  have hnew := IntsB.lit (base := w.heap.size + 1) (((w3).alloc (.cells (ints [3, 3]).toArray 3)).alloc (.cells (ints [-1, -3, 1, 3]).toArray 3)) [-2, -3, 2, 3] (fits_lit (by decide)) (n := 4) rfl (by omega) HS.out.lt
  simp only [World.size_alloc] at hnew
  have HS := Lib.hid (HS.out.below' hal)
  have F4 := Lib.hid (F4.out.below hal)
  have F5 := Lib.hid (F5.out.below hal)
  have F6 := Lib.hid (F6.out.below hal)
  have F7 := Lib.hid (F7.out.below hal)
  have F125 := Lib.hid (F125.out.below hal)
  have F127 := Lib.hid (F127.out.below hal)
  have F128 := Lib.hid (F128.out.below hal)
  have F130 := Lib.hid (F130.out.below hal)
  have F131 := Lib.hid hnew
  clear hal hnew
  have hrow : ∀ i, i < 6 → IntsB (w.heap.size + 1) ((((w3).alloc (.cells (ints [3, 3]).toArray 3)).alloc (.cells (ints [-1, -3, 1, 3]).toArray 3)).alloc (.cells (ints [-2, -3, 2, 3]).toArray 3)) (([.slice A125 2 c125, .slice A127 2 c127, .slice (some ⟨w3.heap.size, 0, none⟩) 2 2, .slice (some ⟨w.heap.size + 1 + 1 + 1 + 1, 0, none⟩) 4 4, .slice (some ⟨w3.heap.size + 1, 0, none⟩) 4 4, .slice (some ⟨w3.heap.size + 1 + 1, 0, none⟩) 4 4] : List Value).getD i undef) (([powW [1] 2, powW [2] 2, [3, 3], [-1, -2, 1, 2], [-1, -3, 1, 3], [-2, -3, 2, 3]] : List W).getD i []) := fun i hi => by
    have : i = 0 ∨ i = 1 ∨ i = 2 ∨ i = 3 ∨ i = 4 ∨ i = 5 := by omega
    rcases this with rfl | rfl | rfl | rfl | rfl | rfl
    · exact F125.out
    · exact F127.out
    · exact F128.out
    · exact F7.out
    · exact F130.out
    · exact F131.out
  have hend := known_end HS.out (us := [.slice A125 2 c125, .slice A127 2 c127, .slice (some ⟨w3.heap.size, 0, none⟩) 2 2, .slice (some ⟨w.heap.size + 1 + 1 + 1 + 1, 0, none⟩) 4 4, .slice (some ⟨w3.heap.size + 1, 0, none⟩) 4 4, .slice (some ⟨w3.heap.size + 1 + 1, 0, none⟩) 4 4]) (xs := [powW [1] 2, powW [2] 2, [3, 3], [-1, -2, 1, 2], [-1, -3, 1, 3], [-2, -3, 2, 3]]) (n := 6) rfl rfl hrow (by omega) 3
  simp only [World.size_alloc] at hend
  have HEND := Lib.hid hend
  clear hend hrow
  go_wp2_with ((with_reducible refine wpList_sel 133 ?_); refine wpList_val rfl (r_build40s _ (.tmp 132) 3 _ _ _ rfl rfl rfl) ?_; refine wpList_skip rfl (r_store40 (.tmp 2) (.tmp 133) rfl w.heap.size zero40 _ rfl rfl HEND.out.1 rfl rfl (one40 _ _ _ _)) ?_)
  try simp only [Exit.inBlock, Exit.then]
  refine bodyPost_ret (results_40_tmp (p := 2) (q := 3) rfl _ _ w.heap.size _ (.int .i64 8) rfl rfl (setRow_heap _ _ _ _ _ _ HEND.out.1) rfl) rfl ⟨⟨_, _, rfl, HEND.out.2.1⟩, HEND.out.2.2⟩
set_option maxRecDepth 100000 in
set_option maxHeartbeats 2000000 in
theorem known60_12 (w : World) (x : Int) (hx : x % 14 = 12) : Calls Tryz.prog 13 #[.int .i64 x] w (KnownPost 2 [powW [1] 5, powW [2] 4, [-2, 1, 2, -1, -1]] 20 w) := by
  have HT : Hid (∀ W, Calls Tryz.prog 21 #[.int .i64 x, .int .i64 14] W fun e w' => e = .returned (.int .i64 12) ∧ w' = W) := Lib.hid fun W => by
    have := turn59_any W x 14 (by omega)
    rwa [show ((14 : Nat) : Int) = 14 from rfl, hx] at this
  clear hx
  unfold KnownPost
  go_enter Tryz.func13, Tryz.ntmps13
  go_wp2_with ((with_reducible refine wpList_sel 2 ?_); refine wpList_val rfl (r_alloc40 rfl) ?_)
  refine (HT.out _).mono ?_
  rintro e w1 ⟨rfl, h0⟩
  obtain ⟨hS, f4, f5, f6, f7⟩ := known_start w w1 h0
  have HS := Lib.hid hS
  have F4 := Lib.hid f4
  have F5 := Lib.hid f5
  have F6 := Lib.hid f6
  have F7 := Lib.hid f7
  clear hS f4 f5 f6 f7 h0
  go_wp2_with fail
  refine (powerK _ _ [1] 5 5 F4.out.at_ (by omega) (by decide) rfl).mono ?_
  rintro e w2 ⟨A137, c137, rfl, ho, hb⟩
  have hnew := IntsB.own (base := w.heap.size + 1) ho (fits_lit (by decide)) HS.out.lt
  have HS := Lib.hid (HS.out.below' hb)
  have F4 := Lib.hid (F4.out.below hb)
  have F5 := Lib.hid (F5.out.below hb)
  have F6 := Lib.hid (F6.out.below hb)
  have F7 := Lib.hid (F7.out.below hb)
  have F137 := Lib.hid hnew
  clear ho hb hnew
  go_wp2_with fail
  refine (powerK _ _ [2] 4 4 F5.out.at_ (by omega) (by decide) rfl).mono ?_
  rintro e w3 ⟨A139, c139, rfl, ho, hb⟩
  have hnew := IntsB.own (base := w.heap.size + 1) ho (fits_lit (by decide)) HS.out.lt
  have HS := Lib.hid (HS.out.below' hb)
  have F4 := Lib.hid (F4.out.below hb)
  have F5 := Lib.hid (F5.out.below hb)
  have F6 := Lib.hid (F6.out.below hb)
  have F7 := Lib.hid (F7.out.below hb)
  have F137 := Lib.hid (F137.out.below hb)
  have F139 := Lib.hid hnew
  clear ho hb hnew
  have hal : Below (w3).heap.size (w3) ((w3).alloc (.cells (ints [-2, 1, 2, -1, -1]).toArray 3)) := (Below.refl _ _).alloc (Nat.le_refl _) _
  have hnew := IntsB.lit (base := w.heap.size + 1) (w3) [-2, 1, 2, -1, -1] (fits_lit (by decide)) (n := 5) rfl (by omega) HS.out.lt
  have HS := Lib.hid (HS.out.below' hal)
  have F4 := Lib.hid (F4.out.below hal)
  have F5 := Lib.hid (F5.out.below hal)
  have F6 := Lib.hid (F6.out.below hal)
  have F7 := Lib.hid (F7.out.below hal)
  have F137 := Lib.hid (F137.out.below hal)
  have F139 := Lib.hid (F139.out.below hal)
  have F140 := Lib.hid hnew
  clear hal hnew
  have hrow : ∀ i, i < 3 → IntsB (w.heap.size + 1) ((w3).alloc (.cells (ints [-2, 1, 2, -1, -1]).toArray 3)) (([.slice A137 5 c137, .slice A139 4 c139, .slice (some ⟨w3.heap.size, 0, none⟩) 5 5] : List Value).getD i undef) (([powW [1] 5, powW [2] 4, [-2, 1, 2, -1, -1]] : List W).getD i []) := fun i hi => by
    have : i = 0 ∨ i = 1 ∨ i = 2 := by omega
    rcases this with rfl | rfl | rfl
    · exact F137.out
    · exact F139.out
    · exact F140.out
  have hend := known_end HS.out (us := [.slice A137 5 c137, .slice A139 4 c139, .slice (some ⟨w3.heap.size, 0, none⟩) 5 5]) (xs := [powW [1] 5, powW [2] 4, [-2, 1, 2, -1, -1]]) (n := 3) rfl rfl hrow (by omega) 2
  simp only [World.size_alloc] at hend
  have HEND := Lib.hid hend
  clear hend hrow
  go_wp2_with ((with_reducible refine wpList_sel 142 ?_); refine wpList_val rfl (r_build40s _ (.tmp 141) 2 _ _ _ rfl rfl rfl) ?_; refine wpList_skip rfl (r_store40 (.tmp 2) (.tmp 142) rfl w.heap.size zero40 _ rfl rfl HEND.out.1 rfl rfl (one40 _ _ _ _)) ?_)
  try simp only [Exit.inBlock, Exit.then]
  refine bodyPost_ret (results_40_tmp (p := 2) (q := 3) rfl _ _ w.heap.size _ (.int .i64 20) rfl rfl (setRow_heap _ _ _ _ _ _ HEND.out.1) rfl) rfl ⟨⟨_, _, rfl, HEND.out.2.1⟩, HEND.out.2.2⟩
set_option maxRecDepth 100000 in
set_option maxHeartbeats 2000000 in
theorem known60_13 (w : World) (x : Int) (hx : x % 14 = 13) : Calls Tryz.prog 13 #[.int .i64 x] w (KnownPost 2 [powW [1] 7, powW [2] 3, [-2, 1, 2, -1, -1]] 21 w) := by
  have HT : Hid (∀ W, Calls Tryz.prog 21 #[.int .i64 x, .int .i64 14] W fun e w' => e = .returned (.int .i64 13) ∧ w' = W) := Lib.hid fun W => by
    have := turn59_any W x 14 (by omega)
    rwa [show ((14 : Nat) : Int) = 14 from rfl, hx] at this
  clear hx
  unfold KnownPost
  go_enter Tryz.func13, Tryz.ntmps13
  go_wp2_with ((with_reducible refine wpList_sel 2 ?_); refine wpList_val rfl (r_alloc40 rfl) ?_)
  refine (HT.out _).mono ?_
  rintro e w1 ⟨rfl, h0⟩
  obtain ⟨hS, f4, f5, f6, f7⟩ := known_start w w1 h0
  have HS := Lib.hid hS
  have F4 := Lib.hid f4
  have F5 := Lib.hid f5
  have F6 := Lib.hid f6
  have F7 := Lib.hid f7
  clear hS f4 f5 f6 f7 h0
  go_wp2_with fail
  refine (powerK _ _ [1] 7 7 F4.out.at_ (by omega) (by decide) rfl).mono ?_
  rintro e w2 ⟨A144, c144, rfl, ho, hb⟩
  have hnew := IntsB.own (base := w.heap.size + 1) ho (fits_lit (by decide)) HS.out.lt
  have HS := Lib.hid (HS.out.below' hb)
  have F4 := Lib.hid (F4.out.below hb)
  have F5 := Lib.hid (F5.out.below hb)
  have F6 := Lib.hid (F6.out.below hb)
  have F7 := Lib.hid (F7.out.below hb)
  have F144 := Lib.hid hnew
  clear ho hb hnew
  go_wp2_with fail
  refine (powerK _ _ [2] 3 3 F5.out.at_ (by omega) (by decide) rfl).mono ?_
  rintro e w3 ⟨A146, c146, rfl, ho, hb⟩
  have hnew := IntsB.own (base := w.heap.size + 1) ho (fits_lit (by decide)) HS.out.lt
  have HS := Lib.hid (HS.out.below' hb)
  have F4 := Lib.hid (F4.out.below hb)
  have F5 := Lib.hid (F5.out.below hb)
  have F6 := Lib.hid (F6.out.below hb)
  have F7 := Lib.hid (F7.out.below hb)
  have F144 := Lib.hid (F144.out.below hb)
  have F146 := Lib.hid hnew
  clear ho hb hnew
  have hal : Below (w3).heap.size (w3) ((w3).alloc (.cells (ints [-2, 1, 2, -1, -1]).toArray 3)) := (Below.refl _ _).alloc (Nat.le_refl _) _
  have hnew := IntsB.lit (base := w.heap.size + 1) (w3) [-2, 1, 2, -1, -1] (fits_lit (by decide)) (n := 5) rfl (by omega) HS.out.lt
  have HS := Lib.hid (HS.out.below' hal)
  have F4 := Lib.hid (F4.out.below hal)
  have F5 := Lib.hid (F5.out.below hal)
  have F6 := Lib.hid (F6.out.below hal)
  have F7 := Lib.hid (F7.out.below hal)
  have F144 := Lib.hid (F144.out.below hal)
  have F146 := Lib.hid (F146.out.below hal)
  have F147 := Lib.hid hnew
  clear hal hnew
  have hrow : ∀ i, i < 3 → IntsB (w.heap.size + 1) ((w3).alloc (.cells (ints [-2, 1, 2, -1, -1]).toArray 3)) (([.slice A144 7 c144, .slice A146 3 c146, .slice (some ⟨w3.heap.size, 0, none⟩) 5 5] : List Value).getD i undef) (([powW [1] 7, powW [2] 3, [-2, 1, 2, -1, -1]] : List W).getD i []) := fun i hi => by
    have : i = 0 ∨ i = 1 ∨ i = 2 := by omega
    rcases this with rfl | rfl | rfl
    · exact F144.out
    · exact F146.out
    · exact F147.out
  have hend := known_end HS.out (us := [.slice A144 7 c144, .slice A146 3 c146, .slice (some ⟨w3.heap.size, 0, none⟩) 5 5]) (xs := [powW [1] 7, powW [2] 3, [-2, 1, 2, -1, -1]]) (n := 3) rfl rfl hrow (by omega) 2
  simp only [World.size_alloc] at hend
  have HEND := Lib.hid hend
  clear hend hrow
  go_wp2_with ((with_reducible refine wpList_sel 149 ?_); refine wpList_val rfl (r_build40s _ (.tmp 148) 2 _ _ _ rfl rfl rfl) ?_; refine wpList_skip rfl (r_store40 (.tmp 2) (.tmp 149) rfl w.heap.size zero40 _ rfl rfl HEND.out.1 rfl rfl (one40 _ _ _ _)) ?_)
  try simp only [Exit.inBlock, Exit.then]
  refine bodyPost_ret (results_40_tmp (p := 2) (q := 3) rfl _ _ w.heap.size _ (.int .i64 21) rfl rfl (setRow_heap _ _ _ _ _ _ HEND.out.1) rfl) rfl ⟨⟨_, _, rfl, HEND.out.2.1⟩, HEND.out.2.2⟩
end Go.Proofs
namespace Go.Proofs
open Go.RowKit Go.Shelf Go.Proofs.Ct Go.Maps
def knownE (x : Int) : Int × List W × Int := knownT (x % 14).toNat
theorem known60_any (w : World) (x : Int) : Calls Tryz.prog 13 #[.int .i64 x] w (KnownPost (knownE x).1 (knownE x).2.1 (knownE x).2.2 w) := by
  have h1 := Int.emod_nonneg x (show (14 : Int) ≠ 0 by omega)
  have h2 := Int.emod_lt_of_pos x (show (0 : Int) < 14 by omega)
  unfold knownE
  have : x % 14 = 0 ∨ x % 14 = 1 ∨ x % 14 = 2 ∨ x % 14 = 3 ∨ x % 14 = 4 ∨ x % 14 = 5 ∨ x % 14 = 6 ∨ x % 14 = 7 ∨ x % 14 = 8 ∨ x % 14 = 9 ∨ x % 14 = 10 ∨ x % 14 = 11 ∨ x % 14 = 12 ∨ x % 14 = 13 := by omega
  rcases this with h | h | h | h | h | h | h | h | h | h | h | h | h | h
  · rw [h]; exact known60_0 w x h
  · rw [h]; exact known60_1 w x h
  · rw [h]; exact known60_2 w x h
  · rw [h]; exact known60_3 w x h
  · rw [h]; exact known60_4 w x h
  · rw [h]; exact known60_5 w x h
  · rw [h]; exact known60_6 w x h
  · rw [h]; exact known60_7 w x h
  · rw [h]; exact known60_8 w x h
  · rw [h]; exact known60_9 w x h
  · rw [h]; exact known60_10 w x h
  · rw [h]; exact known60_11 w x h
  · rw [h]; exact known60_12 w x h
  · rw [h]; exact known60_13 w x h
end Go.Proofs
namespace Go.Proofs
open Go.RowKit Go.Shelf Go.Proofs.Ct Go.Maps
def givenP (m : Nat) (which : Int) (l : List Int) : Int × List W :=
  if which.tmod 2 = 0 then ((knownE (which.tdiv 2)).1, (knownE (which.tdiv 2)).2.1) else (1 + which.tdiv 2 % 3, lawWords (1 + which.tdiv 2 % 3).toNat m l)
def GivenPost (P : Int × List W) (w : World) (e : Ending) (w' : World) : Prop := (∃ A c, e = .returned (.agg #[.int .i64 P.1, .slice A P.2.length c]) ∧ Tab w' (.slice A P.2.length c) P.2) ∧ Below w.heap.size w w'
end Go.Proofs
