/- The walk of CollectKnown; Plain: members of lists that grow; Plain: lists act on points in which the relations hold; a polycyclic presentation is consistent just if its cosets are as many as its lists; Plain: the relations' words hold just where the generators act as the presentation says; how many cosets there are; Plain: the relations of a small group are short; CollectOrders: what Enumerate answers for the relations of a polycyclic presentation. -/
import Derived.Test.YtffkmchmakfcpaaOrCS24
import Derived.Test.YtffkmchmakfcpaaOrCS13
import Derived.Test.YtffkmchmakfcpaaOrCS22
import Derived.Test.YtffkmchmakfcpaaOrCS3
import Derived.Test.YtffkmchmakfcpaaOrCS12
namespace Go.Proofs
open Go.RowKit Go.Proofs.Pc
set_option maxRecDepth 100000 in
set_option maxHeartbeats 8000000 in
theorem kn_walk (w : World) : Calls Try.prog 7 #[] w fun e w' => e = .returned (.bool true) ∧ Below w.heap.size w w' := by
  have hv := kv0
  have hp0 : prod (knownD 0) (knownD 0).n ≤ 50000 := by rw [prod_known0]; omega
  go_enter Try.func7, Try.ntmps7
  go_wp2_with fail
  refine (known_0 _ 0 (by omega) rfl).mono ?_
  rintro e w1 ⟨⟨u0, u1, u2, rfl, hp⟩, hb1⟩
  have HP := Lib.hid hp; have HB := Lib.hid hb1; clear hp hb1
  go_wp2_with fail
  refine (new_good _ _ _ _ _ HP.out (by rw [check_known0]) cons_known0).mono ?_
  rintro e w2 ⟨⟨bg, br, rfl, hg, -⟩, hb2⟩
  have HG := Lib.hid hg; have HB := Lib.hid (HB.out.trans (hb2.mono HB.out.size)); clear hg hb2 HP
  have hal := ((Below.refl w2.heap.size w2).alloc (Nat.le_refl _) (.cells #[.int .i64 1, .int .i64 0, .int .i64 0] 3))
  have HGA := Lib.hid (HG.out.below hal)
  go_wp2_with fail
  refine (inv_live hv _ bg br HGA.out.live HGA.out.rules _ [1, 0, 0] (one_ints _ [1, 0, 0] rfl (by decide) 3 rfl) kt1).mono ?_
  rintro e w3 ⟨⟨v, rfl, hx⟩, hb⟩
  rw [kinv] at hx
  obtain ⟨A3, c3, rfl, -⟩ := hx.open_
  have hb := hal.trans (hb.mono hal.size)
  have HG := Lib.hid (HG.out.below hb)
  have HB := Lib.hid (HB.out.trans (hb.mono HB.out.size))
  have HA := Lib.hid hx
  clear hx hb hal HGA
  have hal := ((Below.refl w3.heap.size w3).alloc (Nat.le_refl _) (.cells #[.int .i64 1, .int .i64 1, .int .i64 0] 3))
  have HGA := Lib.hid (HG.out.below hal)
  go_wp2_with fail
  refine (pow_live hv cons_known0 hp0 _ bg br HGA.out.live HGA.out.rules _ [1, 1, 0] 3 (one_ints _ [1, 1, 0] rfl (by decide) 3 rfl) kt2 4 kper1 (by omega)).mono ?_
  rintro e w4 ⟨⟨v, rfl, hx⟩, hb⟩
  rw [kpow] at hx
  obtain ⟨A4, c4, rfl, -⟩ := hx.open_
  have hb := hal.trans (hb.mono hal.size)
  have HG := Lib.hid (HG.out.below hb)
  have HA := Lib.hid (HA.out.below hb)
  have HB := Lib.hid (HB.out.trans (hb.mono HB.out.size))
  have HBv := Lib.hid hx
  clear hx hb hal HGA
  have hal := ((Below.refl w4.heap.size w4).alloc (Nat.le_refl _) (.cells #[.int .i64 1, .int .i64 2, .int .i64 (-1), .int .i64 (-2)] 3))
  have HGA := Lib.hid (HG.out.below hal)
  go_wp2_with fail
  refine (eval_live hv _ bg br HGA.out.live HGA.out.rules _ [1, 2, -1, -2] (one_ints _ [1, 2, -1, -2] rfl (by decide) 4 rfl) (by decide) kgood).mono ?_
  rintro e w5 ⟨⟨v, rfl, hx⟩, hb⟩
  rw [kev] at hx
  obtain ⟨A5, c5, rfl, -⟩ := hx.open_
  have hb := hal.trans (hb.mono hal.size)
  have HG := Lib.hid (HG.out.below hb)
  have HA := Lib.hid (HA.out.below hb)
  have HBv := Lib.hid (HBv.out.below hb)
  have HB := Lib.hid (HB.out.trans (hb.mono HB.out.size))
  have HCv := Lib.hid hx
  clear hx hb hal HGA
  have hal := ((Below.refl w5.heap.size w5).alloc (Nat.le_refl _) (.cells #[.int .i64 1, .int .i64 0, .int .i64 1] 3))
  go_wp2_with fail
  refine (equal_yes _ _ _ [1, 0, 1] [1, 0, 1] (HA.out.below hal) (one_ints _ [1, 0, 1] rfl (by decide) 3 rfl) rfl).mono ?_
  rintro e w6 ⟨rfl, hb⟩
  have hb := hal.trans (hb.mono hal.size)
  clear HA
  have HG := Lib.hid (HG.out.below hb)
  have HBv := Lib.hid (HBv.out.below hb)
  have HCv := Lib.hid (HCv.out.below hb)
  have HB := Lib.hid (HB.out.trans (hb.mono HB.out.size))
  clear hb hal
  have hal := ((Below.refl w6.heap.size w6).alloc (Nat.le_refl _) (.cells #[.int .i64 1, .int .i64 1, .int .i64 1] 3))
  go_wp2_with fail
  refine (equal_yes _ _ _ [1, 1, 1] [1, 1, 1] (HBv.out.below hal) (one_ints _ [1, 1, 1] rfl (by decide) 3 rfl) rfl).mono ?_
  rintro e w7 ⟨rfl, hb⟩
  have hb := hal.trans (hb.mono hal.size)
  clear HBv
  have HG := Lib.hid (HG.out.below hb)
  have HCv := Lib.hid (HCv.out.below hb)
  have HB := Lib.hid (HB.out.trans (hb.mono HB.out.size))
  clear hb hal
  have hal := ((Below.refl w7.heap.size w7).alloc (Nat.le_refl _) (.cells #[.int .i64 0, .int .i64 0, .int .i64 1] 3))
  go_wp2_with fail
  refine (equal_yes _ _ _ [0, 0, 1] [0, 0, 1] (HCv.out.below hal) (one_ints _ [0, 0, 1] rfl (by decide) 3 rfl) rfl).mono ?_
  rintro e w8 ⟨rfl, hb⟩
  have hb := hal.trans (hb.mono hal.size)
  clear HCv
  have HG := Lib.hid (HG.out.below hb)
  have HB := Lib.hid (HB.out.trans (hb.mono HB.out.size))
  clear hb hal
  have hal := ((Below.refl w8.heap.size w8).alloc (Nat.le_refl _) (.cells #[.int .i64 0, .int .i64 1, .int .i64 1] 3))
  have HGA := Lib.hid (HG.out.below hal)
  go_wp2_with fail
  refine (per_live hv cons_known0 hp0 _ bg br HGA.out.live HGA.out.rules _ [0, 1, 1] (one_ints _ [0, 1, 1] rfl (by decide) 3 rfl) kt3).mono ?_
  rintro e w9 ⟨⟨n, hn, -, rfl⟩, hb⟩
  obtain rfl := hn.unique kper2
  have hb := hal.trans (hb.mono hal.size)
  have HG := Lib.hid (HG.out.below hb)
  have HB := Lib.hid (HB.out.trans (hb.mono HB.out.size))
  clear hn hb hal HGA
  have hal := ((Below.refl w9.heap.size w9).alloc (Nat.le_refl _) (.cells #[.int .i64 1, .int .i64 0, .int .i64 1] 3))
  have HGA := Lib.hid (HG.out.below hal)
  go_wp2_with fail
  refine (rank_live hv small_known0 _ bg br HGA.out.live HGA.out.rules _ [1, 0, 1] (one_ints _ [1, 0, 1] rfl (by decide) 3 rfl) kt4).mono ?_
  rintro e w10 ⟨rfl, hb⟩
  rw [krk]
  have hb := hal.trans (hb.mono hal.size)
  have HG := Lib.hid (HG.out.below hb)
  have HB := Lib.hid (HB.out.trans (hb.mono HB.out.size))
  clear hb hal HGA
  go_wp2_with fail
  refine (element_live hv small_known0 _ bg br HG.out.live HG.out.rules 6 (by omega) (by rw [prod_known0]; omega)).mono ?_
  rintro e w11 ⟨⟨v, rfl, hx⟩, hb⟩
  rw [kel] at hx
  obtain ⟨A11, c11, rfl, -⟩ := hx.open_
  have HG := Lib.hid (HG.out.below hb)
  have HB := Lib.hid (HB.out.trans (hb.mono HB.out.size))
  have HD := Lib.hid hx
  clear hx hb
  go_wp2_with fail
  refine (element_bad hv small_known0 _ bg br HG.out.live HG.out.rules 8 (.inr (by rw [prod_known0]; omega))).mono ?_
  rintro e w' ⟨rfl, rfl⟩
  have hal := ((Below.refl w11.heap.size w11).alloc (Nat.le_refl _) (.cells #[.int .i64 1, .int .i64 1, .int .i64 0] 3))
  go_wp2_with fail
  refine (equal_yes _ _ _ [1, 1, 0] [1, 1, 0] (HD.out.below hal) (one_ints _ [1, 1, 0] rfl (by decide) 3 rfl) rfl).mono ?_
  rintro e w12 ⟨rfl, hb⟩
  have hb := hal.trans (hb.mono hal.size)
  clear HD
  have HG := Lib.hid (HG.out.below hb)
  have HB := Lib.hid (HB.out.trans (hb.mono HB.out.size))
  clear hb hal
  clear HG
  have hal : Below w12.heap.size w12 (allocs w12 [.cells #[.int .i64 3, .int .i64 2] 3, .cells #[.int .i64 0, .int .i64 0] 3, .cells #[.int .i64 0, .int .i64 0] 3, .cells #[.slice (some ⟨w12.heap.size + 1, 0, none⟩) 2 2, .slice (some ⟨w12.heap.size + 1 + 1, 0, none⟩) 2 2] 22, .cells #[] 22, .cells #[.int .i64 0, .int .i64 1] 3, .cells #[.slice (some ⟨w12.heap.size + 1 + 1 + 1 + 1 + 1, 0, none⟩) 2 2] 22, .cells #[.slice (some ⟨w12.heap.size + 1 + 1 + 1 + 1, 0, none⟩) 0 0, .slice (some ⟨w12.heap.size + 1 + 1 + 1 + 1 + 1 + 1, 0, none⟩) 1 1] 23]) := allocs_below _ _ _ (Nat.le_refl _)
  have lk := allocs_get [.cells #[.int .i64 3, .int .i64 2] 3, .cells #[.int .i64 0, .int .i64 0] 3, .cells #[.int .i64 0, .int .i64 0] 3, .cells #[.slice (some ⟨w12.heap.size + 1, 0, none⟩) 2 2, .slice (some ⟨w12.heap.size + 1 + 1, 0, none⟩) 2 2] 22, .cells #[] 22, .cells #[.int .i64 0, .int .i64 1] 3, .cells #[.slice (some ⟨w12.heap.size + 1 + 1 + 1 + 1 + 1, 0, none⟩) 2 2] 22, .cells #[.slice (some ⟨w12.heap.size + 1 + 1 + 1 + 1, 0, none⟩) 0 0, .slice (some ⟨w12.heap.size + 1 + 1 + 1 + 1 + 1 + 1, 0, none⟩) 1 1] 23] w12
  have hpc : PcAt (allocs w12 [.cells #[.int .i64 3, .int .i64 2] 3, .cells #[.int .i64 0, .int .i64 0] 3, .cells #[.int .i64 0, .int .i64 0] 3, .cells #[.slice (some ⟨w12.heap.size + 1, 0, none⟩) 2 2, .slice (some ⟨w12.heap.size + 1 + 1, 0, none⟩) 2 2] 22, .cells #[] 22, .cells #[.int .i64 0, .int .i64 1] 3, .cells #[.slice (some ⟨w12.heap.size + 1 + 1 + 1 + 1 + 1, 0, none⟩) 2 2] 22, .cells #[.slice (some ⟨w12.heap.size + 1 + 1 + 1 + 1, 0, none⟩) 0 0, .slice (some ⟨w12.heap.size + 1 + 1 + 1 + 1 + 1 + 1, 0, none⟩) 1 1] 23]) (.slice (some ⟨w12.heap.size, 0, none⟩) 2 2) (.slice (some ⟨w12.heap.size + 1 + 1 + 1, 0, none⟩) 2 2) (.slice (some ⟨w12.heap.size + 1 + 1 + 1 + 1 + 1 + 1 + 1, 0, none⟩) 2 2) sixD := ⟨ints_lit _ (lk 0 _ rfl) rfl (by decide) rfl, tab_lit (lk 3 _ rfl) rfl (by decide) ⟨ints_lit _ (lk 1 _ rfl) rfl (by decide) rfl, ints_lit _ (lk 2 _ rfl) rfl (by decide) rfl, trivial⟩, tab3_lit (lk 7 _ rfl) rfl (by decide) ⟨tab_lit (vs := []) (lk 4 _ rfl) rfl (by decide) trivial, tab_lit (lk 6 _ rfl) rfl (by decide) ⟨ints_lit _ (lk 5 _ rfl) rfl (by decide) rfl, trivial⟩, trivial⟩⟩
  have hal2 : Below (allocs w12 [.cells #[.int .i64 3, .int .i64 2] 3, .cells #[.int .i64 0, .int .i64 0] 3, .cells #[.int .i64 0, .int .i64 0] 3, .cells #[.slice (some ⟨w12.heap.size + 1, 0, none⟩) 2 2, .slice (some ⟨w12.heap.size + 1 + 1, 0, none⟩) 2 2] 22, .cells #[] 22, .cells #[.int .i64 0, .int .i64 1] 3, .cells #[.slice (some ⟨w12.heap.size + 1 + 1 + 1 + 1 + 1, 0, none⟩) 2 2] 22, .cells #[.slice (some ⟨w12.heap.size + 1 + 1 + 1 + 1, 0, none⟩) 0 0, .slice (some ⟨w12.heap.size + 1 + 1 + 1 + 1 + 1 + 1, 0, none⟩) 1 1] 23]).heap.size (allocs w12 [.cells #[.int .i64 3, .int .i64 2] 3, .cells #[.int .i64 0, .int .i64 0] 3, .cells #[.int .i64 0, .int .i64 0] 3, .cells #[.slice (some ⟨w12.heap.size + 1, 0, none⟩) 2 2, .slice (some ⟨w12.heap.size + 1 + 1, 0, none⟩) 2 2] 22, .cells #[] 22, .cells #[.int .i64 0, .int .i64 1] 3, .cells #[.slice (some ⟨w12.heap.size + 1 + 1 + 1 + 1 + 1, 0, none⟩) 2 2] 22, .cells #[.slice (some ⟨w12.heap.size + 1 + 1 + 1 + 1, 0, none⟩) 0 0, .slice (some ⟨w12.heap.size + 1 + 1 + 1 + 1 + 1 + 1, 0, none⟩) 1 1] 23]) ((allocs w12 [.cells #[.int .i64 3, .int .i64 2] 3, .cells #[.int .i64 0, .int .i64 0] 3, .cells #[.int .i64 0, .int .i64 0] 3, .cells #[.slice (some ⟨w12.heap.size + 1, 0, none⟩) 2 2, .slice (some ⟨w12.heap.size + 1 + 1, 0, none⟩) 2 2] 22, .cells #[] 22, .cells #[.int .i64 0, .int .i64 1] 3, .cells #[.slice (some ⟨w12.heap.size + 1 + 1 + 1 + 1 + 1, 0, none⟩) 2 2] 22, .cells #[.slice (some ⟨w12.heap.size + 1 + 1 + 1 + 1, 0, none⟩) 0 0, .slice (some ⟨w12.heap.size + 1 + 1 + 1 + 1 + 1 + 1, 0, none⟩) 1 1] 23]).alloc (.cells #[.slice (some ⟨w12.heap.size, 0, none⟩) 2 2, .slice (some ⟨w12.heap.size + 1 + 1 + 1, 0, none⟩) 2 2, .slice (some ⟨w12.heap.size + 1 + 1 + 1 + 1 + 1 + 1 + 1, 0, none⟩) 2 2] 26)) := (Below.refl _ _).alloc (Nat.le_refl _) _
  have hpc2 := hpc.below hal2
  have hal3 := hal.trans (hal2.mono hal.size)
  have HPC := Lib.hid hpc2; have HAL := Lib.hid hal3
  clear hal lk hpc hal2 hpc2 hal3
  go_wp2_with fail
  refine (cons14_good _ _ _ _ sixD HPC.out six1).mono ?_
  rintro e w13 ⟨rfl, hb⟩
  rw [six2]
  have HB := Lib.hid (HB.out.trans ((HAL.out.trans (hb.mono HAL.out.size)).mono HB.out.size)); clear hb HAL HPC
  go_wp2_with fail
  refine (known_2 _ 2 (by omega) rfl).mono ?_
  rintro e w14 ⟨⟨x0, x1, x2, rfl, hp⟩, hb⟩
  have HPC := Lib.hid hp; have HB := Lib.hid (HB.out.trans (hb.mono HB.out.size)); clear hp hb
  go_wp2_with fail
  refine (cons14_good _ _ _ _ (knownD 2) HPC.out two1).mono ?_
  rintro e w15 ⟨rfl, hb⟩
  rw [two2]
  have HB := Lib.hid (HB.out.trans (hb.mono HB.out.size)); clear hb HPC
  have hal : Below w15.heap.size w15 (allocs w15 [.cells #[.int .i64 2, .int .i64 3] 3, .cells #[.int .i64 0, .int .i64 1] 3, .cells #[.int .i64 0, .int .i64 0] 3, .cells #[.slice (some ⟨w15.heap.size + 1, 0, none⟩) 2 2, .slice (some ⟨w15.heap.size + 1 + 1, 0, none⟩) 2 2] 22, .cells #[] 22, .cells #[.int .i64 0, .int .i64 2] 3, .cells #[.slice (some ⟨w15.heap.size + 1 + 1 + 1 + 1 + 1, 0, none⟩) 2 2] 22, .cells #[.slice (some ⟨w15.heap.size + 1 + 1 + 1 + 1, 0, none⟩) 0 0, .slice (some ⟨w15.heap.size + 1 + 1 + 1 + 1 + 1 + 1, 0, none⟩) 1 1] 23]) := allocs_below _ _ _ (Nat.le_refl _)
  have lk := allocs_get [.cells #[.int .i64 2, .int .i64 3] 3, .cells #[.int .i64 0, .int .i64 1] 3, .cells #[.int .i64 0, .int .i64 0] 3, .cells #[.slice (some ⟨w15.heap.size + 1, 0, none⟩) 2 2, .slice (some ⟨w15.heap.size + 1 + 1, 0, none⟩) 2 2] 22, .cells #[] 22, .cells #[.int .i64 0, .int .i64 2] 3, .cells #[.slice (some ⟨w15.heap.size + 1 + 1 + 1 + 1 + 1, 0, none⟩) 2 2] 22, .cells #[.slice (some ⟨w15.heap.size + 1 + 1 + 1 + 1, 0, none⟩) 0 0, .slice (some ⟨w15.heap.size + 1 + 1 + 1 + 1 + 1 + 1, 0, none⟩) 1 1] 23] w15
  have hpc : PcAt (allocs w15 [.cells #[.int .i64 2, .int .i64 3] 3, .cells #[.int .i64 0, .int .i64 1] 3, .cells #[.int .i64 0, .int .i64 0] 3, .cells #[.slice (some ⟨w15.heap.size + 1, 0, none⟩) 2 2, .slice (some ⟨w15.heap.size + 1 + 1, 0, none⟩) 2 2] 22, .cells #[] 22, .cells #[.int .i64 0, .int .i64 2] 3, .cells #[.slice (some ⟨w15.heap.size + 1 + 1 + 1 + 1 + 1, 0, none⟩) 2 2] 22, .cells #[.slice (some ⟨w15.heap.size + 1 + 1 + 1 + 1, 0, none⟩) 0 0, .slice (some ⟨w15.heap.size + 1 + 1 + 1 + 1 + 1 + 1, 0, none⟩) 1 1] 23]) (.slice (some ⟨w15.heap.size, 0, none⟩) 2 2) (.slice (some ⟨w15.heap.size + 1 + 1 + 1, 0, none⟩) 2 2) (.slice (some ⟨w15.heap.size + 1 + 1 + 1 + 1 + 1 + 1 + 1, 0, none⟩) 2 2) badD := ⟨ints_lit _ (lk 0 _ rfl) rfl (by decide) rfl, tab_lit (lk 3 _ rfl) rfl (by decide) ⟨ints_lit _ (lk 1 _ rfl) rfl (by decide) rfl, ints_lit _ (lk 2 _ rfl) rfl (by decide) rfl, trivial⟩, tab3_lit (lk 7 _ rfl) rfl (by decide) ⟨tab_lit (vs := []) (lk 4 _ rfl) rfl (by decide) trivial, tab_lit (lk 6 _ rfl) rfl (by decide) ⟨ints_lit _ (lk 5 _ rfl) rfl (by decide) rfl, trivial⟩, trivial⟩⟩
  have hal2 : Below (allocs w15 [.cells #[.int .i64 2, .int .i64 3] 3, .cells #[.int .i64 0, .int .i64 1] 3, .cells #[.int .i64 0, .int .i64 0] 3, .cells #[.slice (some ⟨w15.heap.size + 1, 0, none⟩) 2 2, .slice (some ⟨w15.heap.size + 1 + 1, 0, none⟩) 2 2] 22, .cells #[] 22, .cells #[.int .i64 0, .int .i64 2] 3, .cells #[.slice (some ⟨w15.heap.size + 1 + 1 + 1 + 1 + 1, 0, none⟩) 2 2] 22, .cells #[.slice (some ⟨w15.heap.size + 1 + 1 + 1 + 1, 0, none⟩) 0 0, .slice (some ⟨w15.heap.size + 1 + 1 + 1 + 1 + 1 + 1, 0, none⟩) 1 1] 23]).heap.size (allocs w15 [.cells #[.int .i64 2, .int .i64 3] 3, .cells #[.int .i64 0, .int .i64 1] 3, .cells #[.int .i64 0, .int .i64 0] 3, .cells #[.slice (some ⟨w15.heap.size + 1, 0, none⟩) 2 2, .slice (some ⟨w15.heap.size + 1 + 1, 0, none⟩) 2 2] 22, .cells #[] 22, .cells #[.int .i64 0, .int .i64 2] 3, .cells #[.slice (some ⟨w15.heap.size + 1 + 1 + 1 + 1 + 1, 0, none⟩) 2 2] 22, .cells #[.slice (some ⟨w15.heap.size + 1 + 1 + 1 + 1, 0, none⟩) 0 0, .slice (some ⟨w15.heap.size + 1 + 1 + 1 + 1 + 1 + 1, 0, none⟩) 1 1] 23]) ((allocs w15 [.cells #[.int .i64 2, .int .i64 3] 3, .cells #[.int .i64 0, .int .i64 1] 3, .cells #[.int .i64 0, .int .i64 0] 3, .cells #[.slice (some ⟨w15.heap.size + 1, 0, none⟩) 2 2, .slice (some ⟨w15.heap.size + 1 + 1, 0, none⟩) 2 2] 22, .cells #[] 22, .cells #[.int .i64 0, .int .i64 2] 3, .cells #[.slice (some ⟨w15.heap.size + 1 + 1 + 1 + 1 + 1, 0, none⟩) 2 2] 22, .cells #[.slice (some ⟨w15.heap.size + 1 + 1 + 1 + 1, 0, none⟩) 0 0, .slice (some ⟨w15.heap.size + 1 + 1 + 1 + 1 + 1 + 1, 0, none⟩) 1 1] 23]).alloc (.cells #[.slice (some ⟨w15.heap.size, 0, none⟩) 2 2, .slice (some ⟨w15.heap.size + 1 + 1 + 1, 0, none⟩) 2 2, .slice (some ⟨w15.heap.size + 1 + 1 + 1 + 1 + 1 + 1 + 1, 0, none⟩) 2 2] 26)) := (Below.refl _ _).alloc (Nat.le_refl _) _
  have hpc2 := hpc.below hal2
  have hal3 := hal.trans (hal2.mono hal.size)
  have HPC := Lib.hid hpc2; have HAL := Lib.hid hal3
  have HBOX : Hid (((allocs w15 [.cells #[.int .i64 2, .int .i64 3] 3, .cells #[.int .i64 0, .int .i64 1] 3, .cells #[.int .i64 0, .int .i64 0] 3, .cells #[.slice (some ⟨w15.heap.size + 1, 0, none⟩) 2 2, .slice (some ⟨w15.heap.size + 1 + 1, 0, none⟩) 2 2] 22, .cells #[] 22, .cells #[.int .i64 0, .int .i64 2] 3, .cells #[.slice (some ⟨w15.heap.size + 1 + 1 + 1 + 1 + 1, 0, none⟩) 2 2] 22, .cells #[.slice (some ⟨w15.heap.size + 1 + 1 + 1 + 1, 0, none⟩) 0 0, .slice (some ⟨w15.heap.size + 1 + 1 + 1 + 1 + 1 + 1, 0, none⟩) 1 1] 23]).alloc (.cells #[.slice (some ⟨w15.heap.size, 0, none⟩) 2 2, .slice (some ⟨w15.heap.size + 1 + 1 + 1, 0, none⟩) 2 2, .slice (some ⟨w15.heap.size + 1 + 1 + 1 + 1 + 1 + 1 + 1, 0, none⟩) 2 2] 26)).heap[(allocs w15 [.cells #[.int .i64 2, .int .i64 3] 3, .cells #[.int .i64 0, .int .i64 1] 3, .cells #[.int .i64 0, .int .i64 0] 3, .cells #[.slice (some ⟨w15.heap.size + 1, 0, none⟩) 2 2, .slice (some ⟨w15.heap.size + 1 + 1, 0, none⟩) 2 2] 22, .cells #[] 22, .cells #[.int .i64 0, .int .i64 2] 3, .cells #[.slice (some ⟨w15.heap.size + 1 + 1 + 1 + 1 + 1, 0, none⟩) 2 2] 22, .cells #[.slice (some ⟨w15.heap.size + 1 + 1 + 1 + 1, 0, none⟩) 0 0, .slice (some ⟨w15.heap.size + 1 + 1 + 1 + 1 + 1 + 1, 0, none⟩) 1 1] 23]).heap.size]? = some (.cells #[.slice (some ⟨w15.heap.size, 0, none⟩) 2 2, .slice (some ⟨w15.heap.size + 1 + 1 + 1, 0, none⟩) 2 2, .slice (some ⟨w15.heap.size + 1 + 1 + 1 + 1 + 1 + 1 + 1, 0, none⟩) 2 2] 26 (0, 0))) := Lib.hid (heap_alloc_new _ _)
  clear hal lk hpc hal2 hpc2 hal3
  go_wp2_with fail
  refine (cons14_good _ _ _ _ badD HPC.out bad1).mono ?_
  rintro e w16 ⟨rfl, hb⟩
  rw [bad2]
  have HPC := Lib.hid (HPC.out.below hb)
  have hbx := (hb.block _ (Array.getElem?_eq_some_iff.1 HBOX.out).1).trans HBOX.out
  have b0 := (cell_of_row _ _ 0 _ _ _ hbx).trans rfl; have b1 := (cell_of_row _ _ 1 _ _ _ hbx).trans rfl; have b2 := (cell_of_row _ _ 2 _ _ _ hbx).trans rfl
  simp only [allocs, World.size_alloc] at b0 b1 b2
  have HB := Lib.hid (HB.out.trans ((HAL.out.trans (hb.mono HAL.out.size)).mono HB.out.size)); clear hb hbx HAL HBOX
  go_wp2_with fail
  refine (new_inc _ _ _ _ badD HPC.out bad1 bad2).mono ?_
  rintro e w17 ⟨rfl, hb⟩
  have HB := Lib.hid (HB.out.trans (hb.mono HB.out.size)); clear hb HPC b0 b1 b2
  go_wp2_with fail
  refine (known_1 _ 1 (by omega) rfl).mono ?_
  rintro e w18 ⟨⟨y0, y1, y2, rfl, hp⟩, hb⟩
  have HPC := Lib.hid hp; have HB := Lib.hid (HB.out.trans (hb.mono HB.out.size)); clear hp hb
  go_wp2_with fail
  refine (rel_any _ _ _ _ _ HPC.out).mono ?_
  intro e w19 hr
  obtain ⟨Ar, cr, rfl, hta, hb⟩ := hr.open_ one1
  have HB := Lib.hid (HB.out.trans (hb.mono HB.out.size)); clear hr hb HPC
  have hal : Below w19.heap.size w19 (allocs w19 [.cells #[.int .i64 2, .slice Ar 3 cr] 46, .cells #[.int .i64 1, .int .i64 1] 3, .cells #[.int .i64 2, .int .i64 2, .int .i64 2] 3, .cells #[.int .i64 (-1), .int .i64 2, .int .i64 1, .int .i64 (-2), .int .i64 (-2)] 3, .cells #[.slice (some ⟨w19.heap.size + 1, 0, none⟩) 2 2, .slice (some ⟨w19.heap.size + 1 + 1, 0, none⟩) 3 3, .slice (some ⟨w19.heap.size + 1 + 1 + 1, 0, none⟩) 5 5] 50]) := allocs_below _ _ _ (Nat.le_refl _)
  have lk := allocs_get [.cells #[.int .i64 2, .slice Ar 3 cr] 46, .cells #[.int .i64 1, .int .i64 1] 3, .cells #[.int .i64 2, .int .i64 2, .int .i64 2] 3, .cells #[.int .i64 (-1), .int .i64 2, .int .i64 1, .int .i64 (-2), .int .i64 (-2)] 3, .cells #[.slice (some ⟨w19.heap.size + 1, 0, none⟩) 2 2, .slice (some ⟨w19.heap.size + 1 + 1, 0, none⟩) 3 3, .slice (some ⟨w19.heap.size + 1 + 1 + 1, 0, none⟩) 5 5] 50] w19
  have htb : Tab (allocs w19 [.cells #[.int .i64 2, .slice Ar 3 cr] 46, .cells #[.int .i64 1, .int .i64 1] 3, .cells #[.int .i64 2, .int .i64 2, .int .i64 2] 3, .cells #[.int .i64 (-1), .int .i64 2, .int .i64 1, .int .i64 (-2), .int .i64 (-2)] 3, .cells #[.slice (some ⟨w19.heap.size + 1, 0, none⟩) 2 2, .slice (some ⟨w19.heap.size + 1 + 1, 0, none⟩) 3 3, .slice (some ⟨w19.heap.size + 1 + 1 + 1, 0, none⟩) 5 5] 50]) (.slice (some ⟨w19.heap.size + 1 + 1 + 1 + 1, 0, none⟩) 3 3) [[1, 1], [2, 2, 2], [-1, 2, 1, -2, -2]] := tab_lit (lk 4 _ rfl) rfl (by decide) ⟨ints_lit _ (lk 1 _ rfl) rfl (by decide) rfl, ints_lit _ (lk 2 _ rfl) rfl (by decide) rfl, ints_lit _ (lk 3 _ rfl) rfl (by decide) rfl, trivial⟩
  have hta2 : Tab (allocs w19 [.cells #[.int .i64 2, .slice Ar 3 cr] 46, .cells #[.int .i64 1, .int .i64 1] 3, .cells #[.int .i64 2, .int .i64 2, .int .i64 2] 3, .cells #[.int .i64 (-1), .int .i64 2, .int .i64 1, .int .i64 (-2), .int .i64 (-2)] 3, .cells #[.slice (some ⟨w19.heap.size + 1, 0, none⟩) 2 2, .slice (some ⟨w19.heap.size + 1 + 1, 0, none⟩) 3 3, .slice (some ⟨w19.heap.size + 1 + 1 + 1, 0, none⟩) 5 5] 50]) (.slice Ar 3 cr) [[1, 1], [2, 2, 2], [-1, 2, 1, -2, -2]] := kept_tab.below hta hal
  have HTA := Lib.hid hta2; have HTB := Lib.hid htb; have HAL := Lib.hid hal; clear hal lk htb hta hta2
  go_wp2_with fail
  refine (same17_any _ 2 2 _ _ _ _ HTA.out HTB.out rfl).mono ?_
  rintro e w20 ⟨rfl, hb⟩
  rw [decide_eq_true rfl]
  have HB := Lib.hid (HB.out.trans ((HAL.out.trans (hb.mono HAL.out.size)).mono HB.out.size)); clear hb HAL HTA HTB
  have hal : Below w20.heap.size w20 (allocs w20 [.cells #[.int .i64 1] 3, .cells #[.int .i64 0] 3, .cells #[.slice (some ⟨w20.heap.size + 1, 0, none⟩) 1 1] 22, .cells #[] 22, .cells #[.slice (some ⟨w20.heap.size + 1 + 1 + 1, 0, none⟩) 0 0] 23]) := allocs_below _ _ _ (Nat.le_refl _)
  have lk := allocs_get [.cells #[.int .i64 1] 3, .cells #[.int .i64 0] 3, .cells #[.slice (some ⟨w20.heap.size + 1, 0, none⟩) 1 1] 22, .cells #[] 22, .cells #[.slice (some ⟨w20.heap.size + 1 + 1 + 1, 0, none⟩) 0 0] 23] w20
  have hpc : PcAt (allocs w20 [.cells #[.int .i64 1] 3, .cells #[.int .i64 0] 3, .cells #[.slice (some ⟨w20.heap.size + 1, 0, none⟩) 1 1] 22, .cells #[] 22, .cells #[.slice (some ⟨w20.heap.size + 1 + 1 + 1, 0, none⟩) 0 0] 23]) (.slice (some ⟨w20.heap.size, 0, none⟩) 1 1) (.slice (some ⟨w20.heap.size + 1 + 1, 0, none⟩) 1 1) (.slice (some ⟨w20.heap.size + 1 + 1 + 1 + 1, 0, none⟩) 1 1) c1D := ⟨ints_lit _ (lk 0 _ rfl) rfl (by decide) rfl, tab_lit (lk 2 _ rfl) rfl (by decide) ⟨ints_lit _ (lk 1 _ rfl) rfl (by decide) rfl, trivial⟩, tab3_lit (lk 4 _ rfl) rfl (by decide) ⟨tab_lit (vs := []) (lk 3 _ rfl) rfl (by decide) trivial, trivial⟩⟩
  have HPC := Lib.hid hpc; have HAL := Lib.hid hal; clear hal lk hpc
  go_wp2_with fail
  refine (check_any _ _ _ _ c1D HPC.out).mono ?_
  rintro e w21 ⟨rfl, hb⟩
  rw [chkc1]
  have HB := Lib.hid (HB.out.trans ((HAL.out.trans (hb.mono HAL.out.size)).mono HB.out.size)); clear hb HAL HPC
  have hal : Below w21.heap.size w21 (allocs w21 [.cells #[.int .i64 2] 3]) := allocs_below _ _ _ (Nat.le_refl _)
  have lk := allocs_get [.cells #[.int .i64 2] 3] w21
  have hpc : PcAt (allocs w21 [.cells #[.int .i64 2] 3]) (.slice (some ⟨w21.heap.size, 0, none⟩) 1 1) (.slice none 0 0) (.slice none 0 0) c2D := ⟨ints_lit _ (lk 0 _ rfl) rfl (by decide) rfl, ⟨[], nil_sl, rfl, fun i hi => absurd hi (by simp [c2D])⟩, ⟨[], nil_sl, rfl, fun i hi => absurd hi (by simp [c2D])⟩⟩
  have HPC := Lib.hid hpc; have HAL := Lib.hid hal; clear hal lk hpc
  go_wp2_with fail
  refine (check_any _ _ _ _ c2D HPC.out).mono ?_
  rintro e w22 ⟨rfl, hb⟩
  rw [chkc2]
  have HB := Lib.hid (HB.out.trans ((HAL.out.trans (hb.mono HAL.out.size)).mono HB.out.size)); clear hb HAL HPC
  have hal : Below w22.heap.size w22 (allocs w22 [.cells #[.int .i64 2] 3, .cells #[.int .i64 1] 3, .cells #[.slice (some ⟨w22.heap.size + 1, 0, none⟩) 1 1] 22, .cells #[] 22, .cells #[.slice (some ⟨w22.heap.size + 1 + 1 + 1, 0, none⟩) 0 0] 23]) := allocs_below _ _ _ (Nat.le_refl _)
  have lk := allocs_get [.cells #[.int .i64 2] 3, .cells #[.int .i64 1] 3, .cells #[.slice (some ⟨w22.heap.size + 1, 0, none⟩) 1 1] 22, .cells #[] 22, .cells #[.slice (some ⟨w22.heap.size + 1 + 1 + 1, 0, none⟩) 0 0] 23] w22
  have hpc : PcAt (allocs w22 [.cells #[.int .i64 2] 3, .cells #[.int .i64 1] 3, .cells #[.slice (some ⟨w22.heap.size + 1, 0, none⟩) 1 1] 22, .cells #[] 22, .cells #[.slice (some ⟨w22.heap.size + 1 + 1 + 1, 0, none⟩) 0 0] 23]) (.slice (some ⟨w22.heap.size, 0, none⟩) 1 1) (.slice (some ⟨w22.heap.size + 1 + 1, 0, none⟩) 1 1) (.slice (some ⟨w22.heap.size + 1 + 1 + 1 + 1, 0, none⟩) 1 1) c3D := ⟨ints_lit _ (lk 0 _ rfl) rfl (by decide) rfl, tab_lit (lk 2 _ rfl) rfl (by decide) ⟨ints_lit _ (lk 1 _ rfl) rfl (by decide) rfl, trivial⟩, tab3_lit (lk 4 _ rfl) rfl (by decide) ⟨tab_lit (vs := []) (lk 3 _ rfl) rfl (by decide) trivial, trivial⟩⟩
  have HPC := Lib.hid hpc; have HAL := Lib.hid hal; clear hal lk hpc
  go_wp2_with fail
  refine (check_any _ _ _ _ c3D HPC.out).mono ?_
  rintro e w23 ⟨rfl, hb⟩
  rw [chkc3]
  have HB := Lib.hid (HB.out.trans ((HAL.out.trans (hb.mono HAL.out.size)).mono HB.out.size)); clear hb HAL HPC
  go_wp2_with fail
  refine (awake_any _).mono ?_
  rintro e w24 ⟨rfl, hb⟩
  have HB := Lib.hid (HB.out.trans (hb.mono HB.out.size)); clear hb
  go_wp2_with fail
  go_ret
  exact ⟨rfl, HB.out⟩
end Go.Proofs
namespace Go.Proofs.Pc
theorem mem_foldApp {β : Type} (f : Nat → List β) {x : β} : ∀ (m : Nat), x ∈ foldTo (fun i l => l ++ f i) m [] → ∃ i, i < m ∧ x ∈ f i
  | 0, h => absurd h List.not_mem_nil
  | m + 1, h => by
    rcases List.mem_append.1 (show x ∈ foldTo (fun i l => l ++ f i) m [] ++ f m from h) with h | h
    · obtain ⟨i, hi, hx⟩ := mem_foldApp f m h
      exact ⟨i, by omega, hx⟩
    · exact ⟨m, by omega, h⟩
theorem foldApp_mem {β : Type} (f : Nat → List β) {x : β} {i : Nat} (hx : x ∈ f i) : ∀ (m : Nat), i < m → x ∈ foldTo (fun i l => l ++ f i) m []
  | 0, h => by omega
  | m + 1, h => by
    refine List.mem_append.2 ?_
    rcases Nat.lt_or_ge i m with h' | h'
    · exact .inl (foldApp_mem f hx m h')
    · obtain rfl : i = m := by omega
      exact .inr hx
end Go.Proofs.Pc
namespace Go.Proofs.Pc
open Go.Proofs.Ct (Mdl actW actW_app Way Coset LOk col Edge nx flp W Tb Full)
section
variable {α : Type}
/-- a list acts -/
def nf (A : Nat → α → α) (n : Nat) (y : V) (p : α) : α := foldTo (fun k p => iter (A k) (y.getD k 0).toNat p) n p
/-- points on which the generators act and in which the relations hold -/
structure PcAct (P : PcD) (D : α → Prop) (A : Nat → α → α) : Prop where
  cl : ∀ k p, k < P.n → D p → D (A k p)
  pow : ∀ i p, i < P.n → D p → iter (A i) (P.ord i).toNat p = nf A P.n (P.pow i) p
  cj : ∀ i j p, i < j → j < P.n → D p → A i (A j p) = nf A P.n (P.cj j i) (A i p)
theorem nf_cut {A : Nat → α → α} {n i : Nat} (hi : i < n) (x : V) (p : α) : nf A n x p = foldTo (fun t q => iter (A (i + 1 + t)) (x.getD (i + 1 + t) 0).toNat q) (n - (i + 1)) (iter (A i) (x.getD i 0).toNat (foldTo (fun k p => iter (A k) (x.getD k 0).toNat p) i p)) := by
  obtain ⟨r, hr⟩ : ∃ r, n = (i + 1) + r := ⟨n - (i + 1), by omega⟩
  subst hr
  unfold nf
  rw [foldTo_split, show (i + 1) + r - (i + 1) = r by omega]
  rfl
theorem nf_low {A : Nat → α → α} {n i : Nat} (hi : i < n) {x : V} (h0 : ∀ k, i < k → k < n → x.getD k 0 = 0) (p : α) : nf A n x p = iter (A i) (x.getD i 0).toNat (foldTo (fun k p => iter (A k) (x.getD k 0).toNat p) i p) := by
  rw [nf_cut hi]
  exact foldTo_id (fun t z ht => by rw [h0 _ (by omega) (by omega)]; rfl) _
theorem nf_uP {P : PcD} {A : Nat → α → α} {k : Nat} (hk : k < P.n) (e : Int) (p : α) : nf A P.n (uP P k e) p = iter (A k) e.toNat p := by
  rw [nf_low hk (fun j hj _ => by rw [getD_uP, if_neg (by omega)]), getD_uP, if_pos ⟨rfl, hk⟩]
  congr 1
  exact foldTo_id (fun t z ht => by rw [getD_uP, if_neg (by omega)]; rfl) _
theorem nf_zV {P : PcD} {A : Nat → α → α} (p : α) : nf A P.n (zV P) p = p := foldTo_id (fun t z _ => by rw [getD_zV]; rfl) _
variable {P : PcD} {D : α → Prop} {A : Nat → α → α}
theorem nf_D (hA : PcAct P D A) (y : V) {p : α} (hp : D p) : D (nf A P.n y p) := foldTo_inv (p := D) P.n (fun k q hk hq => iter_inv (p := D) (fun r hr => hA.cl k r hk hr) _ q hq) p hp
theorem nf_mulG (hv : Valid P) {m : Nat} {p : α} (H : ∀ k, m ≤ k → k < P.n → ∀ x, NV P x → nf A P.n (T P k x) p = A k (nf A P.n x p)) {x y : V} (hx : NV P x) (hy : G P m y) : nf A P.n (mulP P x y) p = nf A P.n y (nf A P.n x p) := by
  rw [mulP_def]
  refine foldTo_hom (p := NV P) (φ := fun z => nf A P.n z p) P.n (fun k z hk hz => iter_inv (p := NV P) (fun w hw => T_NV hv hk hw) _ z hz) (fun k z hk hz => ?_) x hx
  rcases Nat.lt_or_ge k m with h | h
  · rw [hy.2 k hk h]; rfl
  · exact iter_hom (p := NV P) (φ := fun z => nf A P.n z p) (fun w hw => T_NV hv hk hw) (fun w hw => H k h hk w hw) _ z hz
theorem nf_T (hv : Valid P) (hA : PcAct P D A) {p : α} (hp : D p) : ∀ (d i : Nat), P.n ≤ i + d → i < P.n → ∀ x, NV P x → nf A P.n (T P i x) p = A i (nf A P.n x p) := by
  intro d
  induction d with
  | zero => intro i h hi; omega
  | succ d ih =>
    intro i h hi x hx
    have H : ∀ k, i + 1 ≤ k → k < P.n → ∀ x, NV P x → nf A P.n (T P k x) p = A k (nf A P.n x p) := fun k hk hkn => ih k (by omega) hkn
    have hxi := hx.2 i hi
    have hDl : D (foldTo (fun k p => iter (A k) (x.getD k 0).toNat p) i p) := foldTo_inv (p := D) i (fun k q hk hq => iter_inv (p := D) (fun r hr => hA.cl k r (by omega) hr) _ q hq) p hp
    have hb : ∀ v : V, (∀ k, k < i → v.getD k 0 = x.getD k 0) → (foldTo (fun k p => iter (A k) (v.getD k 0).toNat p) i p) = foldTo (fun k p => iter (A k) (x.getD k 0).toNat p) i p := fun v hv' => foldTo_congr i (fun k z hk => by rw [hv' k hk]) p
    have hz : NV P (if x.getD i 0 + 1 = P.ord i then mulP P ((bump x i).set i 0) (P.pow i) else bump x i) ∧ nf A P.n (if x.getD i 0 + 1 = P.ord i then mulP P ((bump x i).set i 0) (P.pow i) else bump x i) p = A i (iter (A i) (x.getD i 0).toNat (foldTo (fun k p => iter (A k) (x.getD k 0).toNat p) i p)) := by
      by_cases ho : x.getD i 0 + 1 = P.ord i
      · rw [if_pos ho]
        have hl : NV P ((bump x i).set i 0) := ⟨by simp [length_bump, hx.1], fun j hj => by
          have h2 := hx.2 j hj
          rw [getD_set, getD_bump x i j (by rw [hx.1]; exact hi), length_bump, hx.1]
          by_cases e : i = j
          · subst e; rw [if_pos ⟨rfl, hi⟩]; omega
          · rw [if_neg (fun hh => e hh.1), if_neg (Ne.symm e)]
            split
            · exact h2
            · omega⟩
        refine ⟨mulP_NV hv hl, ?_⟩
        rw [nf_mulG hv H hl (G.norm (hv.pow i hi)), nf_low (x := (bump x i).set i 0) hi (fun k hk hkn => by rw [getD_set, if_neg (by omega), getD_bump x i k (by rw [hx.1]; exact hi), if_neg (by omega), if_neg (by omega)]),
          getD_set, if_pos ⟨rfl, by rw [length_bump, hx.1]; exact hi⟩, hb _ (fun k hk => by rw [getD_set, if_neg (by omega), getD_bump x i k (by rw [hx.1]; exact hi), if_neg (by omega), if_pos hk])]
        show nf A P.n (P.pow i) (foldTo _ i p) = _
        rw [← hA.pow i _ hi hDl, show (P.ord i).toNat = (x.getD i 0).toNat + 1 by omega]
        rfl
      · rw [if_neg ho]
        refine ⟨⟨by rw [length_bump]; exact hx.1, fun j hj => ?_⟩, ?_⟩
        · have h1 := hx.2 j hj
          rw [getD_bump x i j (by rw [hx.1]; exact hi)]
          by_cases e : j = i
          · subst e; rw [if_pos rfl]; omega
          · rw [if_neg e]
            split
            · exact h1
            · omega
        · rw [nf_low hi (fun k hk hkn => by rw [getD_bump x i k (by rw [hx.1]; exact hi), if_neg (by omega), if_neg (by omega)]), getD_bump x i i (by rw [hx.1]; exact hi), if_pos rfl,
            hb _ (fun k hk => by rw [getD_bump x i k (by rw [hx.1]; exact hi), if_neg (by omega), if_pos hk]), show (x.getD i 0 + 1).toNat = (x.getD i 0).toNat + 1 by omega]
          rfl
    rw [T_eq hv hi, nf_cut hi x p]
    obtain ⟨hz1, hz2⟩ := hz
    generalize (if x.getD i 0 + 1 = P.ord i then mulP P ((bump x i).set i 0) (P.pow i) else bump x i) = z0 at hz1 hz2
    have hDM : D (iter (A i) (x.getD i 0).toNat (foldTo (fun k p => iter (A k) (x.getD k 0).toNat p) i p)) := iter_inv (p := D) (fun r hr => hA.cl i r hi hr) _ _ hDl
    generalize iter (A i) (x.getD i 0).toNat (foldTo (fun k p => iter (A k) (x.getD k 0).toNat p) i p) = M at *
    have h1 : nf A P.n (sig P i x z0) p = foldTo (fun t q => iter (nf A P.n (P.cj (i + 1 + t) i)) (x.getD (i + 1 + t) 0).toNat q) (P.n - (i + 1)) (nf A P.n z0 p) := by
      unfold sig
      refine foldTo_hom (p := NV P) (φ := fun z => nf A P.n z p) _ (fun t z ht hz => iter_inv (p := NV P) (fun w hw => mulP_NV hv hw) _ z hz) (fun t z ht hz => ?_) z0 hz1
      exact iter_hom (p := NV P) (φ := fun z => nf A P.n z p) (fun w hw => mulP_NV hv hw) (fun w hw => nf_mulG hv H hw (G_cj hv (by omega) (by omega))) _ z hz
    rw [h1, hz2]
    refine (foldTo_hom (p := D) (φ := A i) _ (fun t z ht hz => iter_inv (p := D) (fun w hw => hA.cl _ w (by omega) hw) _ z hz) (fun t z ht hz => ?_) M hDM).symm
    exact iter_hom (p := D) (φ := A i) (fun w hw => hA.cl _ w (by omega) hw) (fun w hw => hA.cj i (i + 1 + t) w (by omega) (by omega) hw) _ z hz
theorem nf_step (hv : Valid P) (hA : PcAct P D A) {p : α} (hp : D p) {i : Nat} (hi : i < P.n) {x : V} (hx : NV P x) : nf A P.n (T P i x) p = A i (nf A P.n x p) := nf_T hv hA hp P.n i (by omega) hi x hx
theorem nf_mul (hv : Valid P) (hA : PcAct P D A) {p : α} (hp : D p) {x y : V} (hx : NV P x) (hy : NV P y) : nf A P.n (mulP P x y) p = nf A P.n y (nf A P.n x p) :=
  nf_mulG hv (m := 0) (fun _ _ hk _ hx => nf_step hv hA hp hk hx) hx ⟨hy, fun _ _ h => absurd h (Nat.not_lt_zero _)⟩
/-- the overlaps' pairs act alike -/
theorem ovl_act (hv : Valid P) (hA : PcAct P D A) {q : V × V} (hq : q ∈ ovl P) : NV P q.1 ∧ NV P q.2 ∧ ∀ p, D p → nf A P.n q.1 p = nf A P.n q.2 p := by
  have hu : ∀ k, NV P (uP P k 1) := fun k => NV_c hv k
  have n1 : ∀ {k p}, k < P.n → nf A P.n (uP P k 1) p = A k p := fun hk => by rw [nf_uP hk]; rfl
  have mm : ∀ {x y : V}, NV P x → NV P (mulP P x y) := fun hx => mulP_NV hv hx
  have o1 : ∀ i, i < P.n → ∃ m : Nat, (P.ord i).toNat = m + 1 ∧ (P.ord i - 1).toNat = m := fun i hi => by have := hv.ord2 i hi; exact ⟨(P.ord i - 1).toNat, by omega, rfl⟩
  unfold ovl ovI at hq
  obtain ⟨i, hi, hq⟩ := mem_foldApp _ _ hq
  rcases List.mem_append.1 hq with hq | hq
  · obtain rfl : q = pI P i := by simpa using hq
    have hp1 := norm_NV (hv.pow i hi)
    refine ⟨mm hp1, mm (hu i), fun p hp => ?_⟩
    show nf A P.n (mulP P (P.pow i) (uP P i 1)) p = nf A P.n (mulP P (uP P i 1) (P.pow i)) p
    rw [nf_mul hv hA hp hp1 (hu i), nf_mul hv hA hp (hu i) hp1, n1 hi, n1 hi, ← hA.pow i _ hi hp, ← hA.pow i _ hi (hA.cl i p hi hp)]
    exact iter_succ' (A i) _ p
  · unfold ovJ at hq
    obtain ⟨s, hs, hq⟩ := mem_foldApp _ _ hq
    have hij : i < i + 1 + s := by omega
    have hj : i + 1 + s < P.n := by omega
    generalize i + 1 + s = j at *
    have hp1 := norm_NV (hv.pow i hi)
    have hp2 := norm_NV (hv.pow j hj)
    have ho := hv.ord2 j hj
    rcases List.mem_append.1 hq with hq | hq
    · rcases List.mem_cons.1 hq with rfl | hq
      · have hu1 : NV P (uP P j (P.ord j - 1)) := uP_NV hv (by omega) (fun _ => by omega)
        refine ⟨mm hp2, mm hu1, fun p hp => ?_⟩
        show nf A P.n (mulP P (P.pow j) (uP P i 1)) p = nf A P.n (mulP P (uP P j (P.ord j - 1)) (mulP P (uP P j 1) (uP P i 1))) p
        have hD1 : D (iter (A j) (P.ord j - 1).toNat p) := iter_inv (p := D) (fun r hr => hA.cl j r hj hr) _ _ hp
        rw [nf_mul hv hA hp hp2 (hu i), nf_mul hv hA hp hu1 (mm (hu j)), n1 hi, nf_uP hj, nf_mul hv hA hD1 (hu j) (hu i), n1 hi, n1 hj, ← hA.pow j _ hj hp]
        obtain ⟨m, e1, e2⟩ := o1 j hj
        rw [e1, e2]; rfl
      · obtain rfl : q = pJ2 P i j := by simpa using hq
        refine ⟨iter_inv (p := NV P) (fun w hw => T_NV hv hi hw) _ _ (hu j), mm (hu j), fun p hp => ?_⟩
        show nf A P.n (iter (T P i) (P.ord i).toNat (uP P j 1)) p = nf A P.n (mulP P (uP P j 1) (P.pow i)) p
        have e := iter_hom (p := NV P) (φ := fun z => nf A P.n z p) (g := A i) (fun w hw => T_NV hv hi hw) (fun w hw => nf_step hv hA hp hi hw) (P.ord i).toNat _ (hu j)
        rw [show nf A P.n (iter (T P i) (P.ord i).toNat (uP P j 1)) p = iter (A i) (P.ord i).toNat (nf A P.n (uP P j 1) p) from e, nf_mul hv hA hp (hu j) hp1, n1 hj, hA.pow i _ hi (hA.cl j p hj hp)]
    · unfold ovK at hq
      obtain ⟨s, hs, hq⟩ := mem_foldApp _ _ hq
      have hk : j + 1 + s < P.n := by omega
      generalize j + 1 + s = k at *
      obtain rfl : q = pK P i j k := by simpa using hq
      refine ⟨mm (mm (hu k)), mm (hu k), fun p hp => ?_⟩
      show nf A P.n (mulP P (mulP P (uP P k 1) (uP P j 1)) (uP P i 1)) p = nf A P.n (mulP P (uP P k 1) (mulP P (uP P j 1) (uP P i 1))) p
      have hD1 := hA.cl k p hk hp
      rw [nf_mul hv hA hp (mm (hu k)) (hu i), nf_mul hv hA hp (hu k) (hu j), nf_mul hv hA hp (hu k) (mm (hu j)), n1 hk, nf_mul hv hA hD1 (hu j) (hu i)]
end
end Go.Proofs.Pc
namespace Go.Proofs.Pc
open Go.Proofs.Ct (Mdl actW actW_app Way Coset LOk col Edge nx flp W Tb Full)
theorem flp_even (k : Nat) : flp (2 * k) = 2 * k + 1 := by unfold Ct.flp; rw [if_pos (by omega)]
theorem flp_odd (k : Nat) : flp (2 * k + 1) = 2 * k := by unfold Ct.flp; rw [if_neg (by omega)]; omega
theorem col_pos (k : Nat) : col ((k : Int) + 1) = 2 * k := by unfold Ct.col; rw [if_pos (by omega)]; omega
theorem col_neg (k : Nat) : col (-(k : Int) - 1) = 2 * k + 1 := by unfold Ct.col; rw [if_neg (by omega)]; omega
section
variable {α : Type} {P : PcD} {D : α → Prop} {act : α → Nat → α}
/-- points on which letters act, with inverses -/
structure Acts (n : Nat) (D : α → Prop) (act : α → Nat → α) : Prop where
  cl : ∀ p c, D p → c < 2 * n → D (act p c)
  inv : ∀ p c, D p → c < 2 * n → act (act p c) (flp c) = p
theorem actW_rep {k : Nat} : ∀ (m : Nat) (p : α), actW act p (List.replicate m ((k : Int) + 1)) = iter (fun p => act p (2 * k)) m p
  | 0, _ => rfl
  | m + 1, p => by
    rw [List.replicate_succ, iter_succ']
    show actW act (act p (col ((k : Int) + 1))) _ = _
    rw [col_pos]
    exact actW_rep m _
theorem Acts.rep_neg (h : Acts P.n D act) {k : Nat} (hk : k < P.n) : ∀ (m : Nat) {p : α}, D p → actW act (iter (fun p => act p (2 * k)) m p) (List.replicate m (-(k : Int) - 1)) = p
  | 0, _, _ => rfl
  | m + 1, p, hp => by
    rw [List.replicate_succ]
    show actW act (act (act (iter (fun p => act p (2 * k)) m p) (2 * k)) (col (-(k : Int) - 1))) _ = p
    have hD : D (iter (fun p => act p (2 * k)) m p) := iter_inv (p := D) (fun q hq => h.cl q _ hq (by omega)) m p hp
    have := h.inv _ (2 * k) hD (by omega)
    rw [flp_even] at this
    rw [col_neg, this]
    exact h.rep_neg hk m hp
theorem Acts.back_to (h : Acts P.n D act) (y : V) {p : α} (hp : D p) : ∀ t, t ≤ P.n → actW act (nf (fun k p => act p (2 * k)) P.n y p) (backTo y P.n t) = foldTo (fun k p => iter (fun p => act p (2 * k)) (y.getD k 0).toNat p) (P.n - t) p
  | 0, _ => rfl
  | t + 1, ht => by
    show actW act _ (backTo y P.n t ++ List.replicate (y.getD (P.n - 1 - t) 0).toNat (-((P.n - 1 - t : Nat) : Int) - 1)) = _
    rw [actW_app, h.back_to y hp t (by omega), show P.n - t = (P.n - 1 - t) + 1 by omega, show P.n - (t + 1) = P.n - 1 - t by omega]
    exact h.rep_neg (by omega) _ (foldTo_inv (p := D) _ (fun k q hk hq => iter_inv (p := D) (fun r hr => h.cl r _ hr (by omega)) _ q hq) p hp)
theorem Acts.back (h : Acts P.n D act) (y : V) {p : α} (hp : D p) : actW act (nf (fun k p => act p (2 * k)) P.n y p) (back y P.n) = p := by
  have := h.back_to y hp P.n (Nat.le_refl _)
  rw [Nat.sub_self] at this
  exact this
theorem Acts.inj (h : Acts P.n D act) : ∀ {w : List Int} {p q : α}, LOk P.n w → D p → D q → actW act p w = actW act q w → p = q
  | [], _, _, _, _, _, e => e
  | l :: w, p, q, hw, hp, hq, e => by
    have hl := hw l (List.mem_cons_self ..)
    have hc : col l < 2 * P.n := by unfold Ct.col; split <;> omega
    have e1 := h.inj (w := w) (fun x hx => hw x (List.mem_cons_of_mem _ hx)) (h.cl p _ hp hc) (h.cl q _ hq hc) e
    rw [← h.inv p _ hp hc, e1, h.inv q _ hq hc]
theorem back_ok (y : V) (n : Nat) : ∀ t, t ≤ n → LOk n (backTo y n t)
  | 0, _ => fun x hx => absurd hx List.not_mem_nil
  | t + 1, ht => fun x hx => by
    rcases List.mem_append.1 (show x ∈ backTo y n t ++ List.replicate (y.getD (n - 1 - t) 0).toNat (-((n - 1 - t : Nat) : Int) - 1) from hx) with h | h
    · exact back_ok y n t (by omega) x h
    · have := List.eq_of_mem_replicate h
      omega
theorem relW_mem {i : Nat} (hi : i < P.n) : relW P i ∈ rels P := List.mem_append.2 (.inl (foldApp_mem (fun i => [relW P i]) (List.mem_singleton.2 rfl) P.n hi))
theorem relC_mem {i j : Nat} (hij : i < j) (hj : j < P.n) : relC P j i ∈ rels P := List.mem_append.2 (.inr (foldApp_mem (fun j => relsJ P j j) (foldApp_mem (fun i => [relC P j i]) (List.mem_singleton.2 rfl) j hij) P.n hj))
theorem rels_cases {w : List Int} (h : w ∈ rels P) : (∃ i, i < P.n ∧ w = relW P i) ∨ ∃ i j, i < j ∧ j < P.n ∧ w = relC P j i := by
  rcases List.mem_append.1 h with h | h
  · obtain ⟨i, hi, hx⟩ := mem_foldApp _ _ h
    exact .inl ⟨i, hi, List.mem_singleton.1 hx⟩
  · obtain ⟨j, hj, hx⟩ := mem_foldApp _ _ h
    obtain ⟨i, hi, hx⟩ := mem_foldApp _ _ hx
    exact .inr ⟨i, j, hi, hj, List.mem_singleton.1 hx⟩
theorem rels_ok {w : List Int} (h : w ∈ rels P) : LOk P.n w := by
  rcases rels_cases h with ⟨i, hi, rfl⟩ | ⟨i, j, hij, hj, rfl⟩
  · intro x hx
    rcases List.mem_append.1 hx with h | h
    · have := List.eq_of_mem_replicate h; omega
    · exact back_ok _ _ _ (Nat.le_refl _) x h
  · intro x hx
    rcases List.mem_append.1 hx with h | h
    · simp only [List.mem_cons, List.not_mem_nil, or_false] at h
      rcases h with h | h | h <;> omega
    · exact back_ok _ _ _ (Nat.le_refl _) x h
theorem actW_relC {i j : Nat} (p : α) (w : List Int) : actW act p ([-(i : Int) - 1, (j : Int) + 1, (i : Int) + 1] ++ w) = actW act (act (act (act p (2 * i + 1)) (2 * j)) (2 * i)) w := by
  show actW act (act (act (act p (col (-(i : Int) - 1))) (col ((j : Int) + 1))) (col ((i : Int) + 1))) w = _
  rw [col_pos, col_pos, col_neg]
/-- where the words are closed the generators act as the presentation says -/
theorem Acts.pc (h : Acts P.n D act) (hr : ∀ w ∈ rels P, ∀ p, D p → actW act p w = p) : PcAct P D (fun k p => act p (2 * k)) := by
  have hI : ∀ {k m : Nat} {p : α}, k < P.n → D p → D (iter (fun p => act p (2 * k)) m p) := fun hk hp => iter_inv (p := D) (fun r hr => h.cl r _ hr (by omega)) _ _ hp
  have hN : ∀ (y : V) {p : α}, D p → D (nf (fun k p => act p (2 * k)) P.n y p) := fun y p hp => foldTo_inv (p := D) P.n (fun k q hk hq => hI hk hq) p hp
  refine ⟨fun k p hk hp => h.cl p _ hp (by omega), fun i p hi hp => ?_, fun i j p hij hj hp => ?_⟩
  · have h1 := hr _ (relW_mem hi) p hp
    unfold relW at h1
    rw [actW_app, actW_rep] at h1
    exact h.inj (back_ok _ _ _ (Nat.le_refl _)) (hI hi hp) (hN _ hp) (h1.trans (h.back _ hp).symm)
  · have hA := h.cl p (2 * i) hp (by omega)
    have h1 := hr _ (relC_mem hij hj) _ hA
    unfold relC at h1
    rw [actW_relC] at h1
    have h2 := h.inv p (2 * i) hp (by omega)
    rw [flp_even] at h2
    rw [h2] at h1
    exact h.inj (back_ok _ _ _ (Nat.le_refl _)) (h.cl _ _ (h.cl _ _ hp (by omega)) (by omega)) (hN _ hA) (h1.trans (h.back _ hA).symm)
/-- and the other way round -/
theorem Acts.rel (h : Acts P.n D act) (hA : PcAct P D (fun k p => act p (2 * k))) {w : List Int} (hw : w ∈ rels P) {p : α} (hp : D p) : actW act p w = p := by
  rcases rels_cases hw with ⟨i, hi, rfl⟩ | ⟨i, j, hij, hj, rfl⟩
  · unfold relW
    rw [actW_app, actW_rep, hA.pow i p hi hp]
    exact h.back _ hp
  · have h1 := h.cl p (2 * i + 1) hp (by omega)
    have h2 := h.inv p (2 * i + 1) hp (by omega)
    rw [flp_odd] at h2
    have h3 := hA.cj i j _ hij hj h1
    rw [h2] at h3
    unfold relC
    rw [actW_relC, h3]
    exact h.back _ hp
end
section
variable {P : PcD} (hv : Valid P)
include hv
/-- how letters act on lists -/
def vact (P : PcD) (x : V) (c : Nat) : V := if c % 2 = 0 then T P (c / 2) x else mulP P x (invP P (uP P (c / 2) 1))
omit hv in
theorem vact_even (x : V) (k : Nat) : vact P x (2 * k) = T P k x := by unfold vact; rw [if_pos (by omega), show 2 * k / 2 = k by omega]
omit hv in
theorem vact_odd (x : V) (k : Nat) : vact P x (2 * k + 1) = mulP P x (invP P (uP P k 1)) := by unfold vact; rw [if_neg (by omega), show (2 * k + 1) / 2 = k by omega]
theorem vacts (hc : consB P = true) : Acts P.n (NV P) (vact P) := by
  have hu : ∀ k, NV P (uP P k 1) := fun k => NV_c hv k
  refine ⟨fun p c hp hcc => ?_, fun p c hp hcc => ?_⟩
  · unfold vact
    split
    · exact T_NV hv (by omega) hp
    · exact mulP_NV hv hp
  · rcases Nat.mod_two_eq_zero_or_one c with e | e
    · obtain ⟨k, rfl⟩ : ∃ k, c = 2 * k := ⟨c / 2, by omega⟩
      rw [flp_even, vact_even, vact_odd, ← mul_unit (show k < P.n by omega), ← mul_assoc hv hc hp (hu k) (invP_NV hv (hu k)), mul_inv hv (hu k), mul_zero]
    · obtain ⟨k, rfl⟩ : ∃ k, c = 2 * k + 1 := ⟨c / 2, by omega⟩
      rw [flp_odd, vact_even, vact_odd, ← mul_unit (show k < P.n by omega), ← mul_assoc hv hc hp (invP_NV hv (hu k)) (hu k), inv_mul hv hc (hu k), mul_zero]
theorem vpc (hc : consB P = true) : PcAct P (NV P) (fun k p => vact P p (2 * k)) := by
  have hu : ∀ k, NV P (uP P k 1) := fun k => NV_c hv k
  have e : (fun k p => vact P p (2 * k)) = fun k p => T P k p := by funext k p; exact vact_even p k
  rw [e]
  refine ⟨fun k p hk hp => T_NV hv hk hp, fun i p hi hp => ?_, fun i j p hij hj hp => ?_⟩
  · exact (lev_of hv hc hi (assoc_of hv hc (P.n - (i + 1)) (i + 1) (by omega))).FC hp
  · have hi : i < P.n := by omega
    have hcj := G_cj hv hij hj
    have hAs := assoc_of hv hc (P.n - (i + 1)) (i + 1) (by omega)
    show T P i (T P j p) = mulP P (T P i p) (P.cj j i)
    rw [← mul_unit hi, ← mul_unit hj, ← mul_unit hi p, ← mul_assoc hv hc hp (hu j) (hu i), ← mul_assoc hv hc hp (hu i) hcj.1, mul_unit hi, T_H hv hi hAs (G_c (m := i + 1) hv hj (by omega)), ph_c hv hAs hij hj]
theorem vmdl (hc : consB P = true) : Mdl P.n (rels P) (NV P) (vact P) :=
  ⟨(vacts hv hc).cl, (vacts hv hc).inv, fun p i hp hi => (vacts hv hc).rel (vpc hv hc) (by rw [List.getD_eq_getElem?_getD, List.getElem?_eq_getElem hi]; exact List.getElem_mem hi) hp⟩
variable {t : Tb}
omit hv in
/-- how letters act on cosets -/
theorem tacts (h : Full P.n t) : Acts P.n (fun x => x < t.length) (nx t) := ⟨fun p c hp hc => (h.nx hp hc).1, fun p c hp hcc => by
  obtain ⟨h1, h2⟩ := h.nx hp hcc
  have h3 := h.good.eback hp hcc h2
  have : flp c < 2 * P.n := by unfold Ct.flp; split <;> omega
  obtain ⟨h4, h5⟩ := h.nx h1 this
  unfold Ct.Edge at h3 h5
  omega⟩
omit hv in
theorem tpc (h : Coset P.n (rels P) [] t) : PcAct P (fun x => x < t.length) (fun k p => nx t p (2 * k)) := (tacts h.full).pc fun w hw p hp => by
  obtain ⟨j, hj, e⟩ := List.mem_iff_getElem.1 hw
  have := h.rel p hp j hj
  rw [List.getD_eq_getElem?_getD, List.getElem?_eq_getElem hj] at this
  rw [← e]
  refine h.full.actW_of ?_ hp this
  have : (rels P)[j] ∈ rels P := List.getElem_mem hj
  exact rels_ok this
/-- the coset of a list -/
def pt (P : PcD) (t : Tb) (v : V) : Nat := nf (fun k p => nx t p (2 * k)) P.n v 0
omit hv in
theorem pt_lt (h : Coset P.n (rels P) [] t) (v : V) : pt P t v < t.length := nf_D (tpc h) v h.full.good.n1
theorem pt_all (h : Coset P.n (rels P) [] t) {x : Nat} (hx : x < t.length) : ∃ v, NV P v ∧ pt P t v = x := by
  have key : ∀ y, Ct.Reach P.n t 0 y → y < t.length ∧ ∃ v, NV P v ∧ pt P t v = y := fun y hy => by
    induction hy with
    | refl => exact ⟨h.full.good.n1, zV P, NV_z hv, nf_zV 0⟩
    | @step y z c _ hc he ih =>
      obtain ⟨i1, v, i2, i3⟩ := ih
      have hz := h.full.good.elt i1 hc he
      refine ⟨hz, ?_⟩
      obtain ⟨h1, h2⟩ := h.full.nx i1 hc
      have e1 : nx t y c = z := by unfold Ct.Edge at he h2; omega
      have h0 : 0 < t.length := h.full.good.n1
      rcases Nat.mod_two_eq_zero_or_one c with e | e
      · obtain ⟨k, rfl⟩ : ∃ k, c = 2 * k := ⟨c / 2, by omega⟩
        refine ⟨T P k v, T_NV hv (by omega) i2, ?_⟩
        unfold pt at i3 ⊢
        rw [nf_step hv (tpc h) h0 (by omega) i2, i3, e1]
      · obtain ⟨k, rfl⟩ : ∃ k, c = 2 * k + 1 := ⟨c / 2, by omega⟩
        have hu := NV_c hv k
        have hi := invP_NV hv hu
        refine ⟨mulP P v (invP P (uP P k 1)), mulP_NV hv i2, ?_⟩
        have h3 := (tacts h.full).inv y _ i1 hc
        rw [flp_odd, e1] at h3
        have h4 := nf_mul hv (tpc h) (p := z) hz hu hi
        rw [mul_inv hv hu, nf_zV, nf_uP (by omega)] at h4
        unfold pt at i3 ⊢
        rw [nf_mul hv (tpc h) h0 i2 hi, i3, ← h3]
        exact h4.symm
  exact (key x (h.full.conn x hx)).2
theorem el_at {v : V} (hvv : NV P v) : ∃ r, r < (prod P P.n).toNat ∧ elP P (r : Int) = v := by
  have h1 := rk_bd hv hvv P.n (Nat.le_refl _)
  refine ⟨(rk P v P.n).toNat, by omega, ?_⟩
  rw [show (((rk P v P.n).toNat : Nat) : Int) = rk P v P.n by omega]
  exact el_rk hv hvv
theorem el_NV {r : Nat} (hr : r < (prod P P.n).toNat) : NV P (elP P (r : Int)) := elP_NV hv (by omega) (by omega)
theorem el_inj {r s : Nat} (hr : r < (prod P P.n).toNat) (hs : s < (prod P P.n).toNat) (e : elP P (r : Int) = elP P (s : Int)) : r = s := by
  have h1 := rk_el hv (r := (r : Int)) (by omega) (by omega)
  have h2 := rk_el hv (r := (s : Int)) (by omega) (by omega)
  rw [e] at h1
  omega
theorem cosets_le (h : Coset P.n (rels P) [] t) : t.length ≤ (prod P P.n).toNat := by
  have := Ct.len_le_of_sub (a := List.range t.length) (b := (List.range (prod P P.n).toNat).map fun (r : Nat) => pt P t (elP P (r : Int))) List.nodup_range fun x hx => by
    obtain ⟨v, h1, h2⟩ := pt_all hv h (List.mem_range.1 hx)
    obtain ⟨r, h3, h4⟩ := el_at hv h1
    exact List.mem_map.2 ⟨r, List.mem_range.2 h3, by rw [h4, h2]⟩
  simpa using this
theorem cosets_lt (h : Coset P.n (rels P) [] t) {u v : V} (hu : NV P u) (hw : NV P v) (hne : u ≠ v) (he : pt P t u = pt P t v) : t.length < (prod P P.n).toNat := by
  obtain ⟨r, h1, h2⟩ := el_at hv hu
  obtain ⟨s, h3, h4⟩ := el_at hv hw
  have hrs : r ≠ s := fun e => hne (by rw [← h2, ← h4, e])
  have := Ct.len_le_of_sub (a := List.range t.length) (b := ((List.range (prod P P.n).toNat).erase r).map fun (r : Nat) => pt P t (elP P (r : Int))) List.nodup_range fun x hx => by
    obtain ⟨w, h5, h6⟩ := pt_all hv h (List.mem_range.1 hx)
    obtain ⟨q, h7, h8⟩ := el_at hv h5
    by_cases e : q = r
    · refine List.mem_map.2 ⟨s, (List.mem_erase_of_ne (Ne.symm hrs)).2 (List.mem_range.2 h3), ?_⟩
      rw [h4, ← he, ← h2, ← e, h8, h6]
    · exact List.mem_map.2 ⟨q, (List.mem_erase_of_ne e).2 (List.mem_range.2 h7), by rw [h8, h6]⟩
  rw [List.length_map, List.length_erase_of_mem (List.mem_range.2 h1), List.length_range, List.length_range] at this
  omega
theorem cosets_ge (hc : consB P = true) (h : Coset P.n (rels P) [] t) : (prod P P.n).toNat ≤ t.length := by
  obtain ⟨φ, h0, h1, h2⟩ := h.univ (vmdl hv hc) (NV_z hv) (fun j hj => absurd hj (Nat.not_lt_zero j))
  have h3 : ∀ v, NV P v → φ (pt P t v) = v := fun v hvv => by
    have hA := tpc h
    have key := foldTo_hom (p := fun x => x < t.length) (φ := φ) (f := fun k p => iter (fun p => nx t p (2 * k)) (v.getD k 0).toNat p) (g := fun k p => iter (T P k) (v.getD k 0).toNat p) P.n
      (fun k z hk hz => iter_inv (p := fun x => x < t.length) (fun r hr => hA.cl k r hk hr) _ z hz)
      (fun k z hk hz => iter_hom (p := fun x => x < t.length) (φ := φ) (fun w hw => hA.cl k w hk hw) (fun w hw => by
        rw [← vact_even]
        exact (h2 w (2 * k) _ hw (by omega) (h.full.nx hw (by omega)).2).symm) _ z hz) 0 h.full.good.n1
    rw [h0] at key
    exact key.trans (zero_mul hv hvv)
  have := Ct.len_le_of_sub (a := (List.range (prod P P.n).toNat).map fun (r : Nat) => pt P t (elP P (r : Int))) (b := List.range t.length)
    (Ct.nodup_map_on (fun x hx y hy e => el_inj hv (List.mem_range.1 hx) (List.mem_range.1 hy) (by rw [← h3 _ (el_NV hv (List.mem_range.1 hx)), e, h3 _ (el_NV hv (List.mem_range.1 hy))])) List.nodup_range) fun x hx => by
    obtain ⟨r, -, rfl⟩ := List.mem_map.1 hx
    exact List.mem_range.2 (pt_lt h _)
  simpa using this
/-- the law of orders -/
theorem orders_law (h : Coset P.n (rels P) [] t) : t.length ≤ (prod P P.n).toNat ∧ consB P = decide (t.length = (prod P P.n).toNat) := by
  refine ⟨cosets_le hv h, ?_⟩
  cases hc : consB P with
  | true =>
    have := cosets_le hv h
    have := cosets_ge hv hc h
    exact (decide_eq_true (by omega)).symm
  | false =>
    obtain ⟨q, hq, hne⟩ : ∃ q, q ∈ ovl P ∧ q.1 ≠ q.2 := by
      unfold consB at hc
      rw [List.all_eq_false] at hc
      obtain ⟨q, h1, h2⟩ := hc
      refine ⟨q, h1, fun e => h2 ?_⟩
      rw [e]
      unfold eq12
      simp
    obtain ⟨h1, h2, h3⟩ := ovl_act hv (tpc h) hq
    have := cosets_lt hv h h1 h2 hne (h3 0 h.full.good.n1)
    exact (decide_eq_false (by omega)).symm
end
end Go.Proofs.Pc
namespace Go.Proofs.Pc
theorem tot_le {B : Nat} : ∀ (l : List (List Int)), (∀ w ∈ l, w.length ≤ B) → tot l ≤ (l.length : Int) * (B : Int)
  | [], _ => by simp [tot]
  | x :: l, h => by
    have h1 := tot_le l fun w hw => h w (List.mem_cons_of_mem _ hw)
    have h2 := h x (List.mem_cons_self ..)
    simp only [tot, List.length_cons]
    rw [show ((l.length + 1 : Nat) : Int) = (l.length : Int) + 1 by omega, Int.add_mul]
    omega
theorem backTo_len' (y : V) (n b : Nat) (hy : ∀ k, k < n → (y.getD k 0).toNat ≤ b) : ∀ t, t ≤ n → (backTo y n t).length ≤ b * t
  | 0, _ => Nat.zero_le _
  | t + 1, ht => by
    show (backTo y n t ++ List.replicate (y.getD (n - 1 - t) 0).toNat _).length ≤ _
    rw [List.length_append, List.length_replicate, Nat.mul_succ]
    have h1 := backTo_len' y n b hy t (by omega)
    have h2 := hy (n - 1 - t) (by omega)
    omega
theorem length_relsI (P : PcD) : ∀ m, (relsI P m).length = m
  | 0 => rfl
  | m + 1 => by
    show (relsI P m ++ [relW P m]).length = _
    rw [List.length_append, length_relsI P m]; rfl
theorem length_relsJ (P : PcD) (j : Nat) : ∀ m, (relsJ P j m).length = m
  | 0 => rfl
  | m + 1 => by
    show (relsJ P j m ++ [relC P j m]).length = _
    rw [List.length_append, length_relsJ P j m]; rfl
theorem length_relsC (P : PcD) (m : Nat) : (relsC P (m + 1)).length = (relsC P m).length + m := by
  show (relsC P m ++ relsJ P m m).length = _
  rw [List.length_append, length_relsJ]
theorem length_rels {P : PcD} (hn : P.n ≤ 4) : (rels P).length ≤ 10 := by
  unfold rels
  rw [List.length_append, length_relsI]
  have h0 : (relsC P 0).length = 0 := rfl
  have h1 : (relsC P 1).length = (relsC P 0).length + 0 := length_relsC P 0
  have h2 : (relsC P 2).length = (relsC P 1).length + 1 := length_relsC P 1
  have h3 : (relsC P 3).length = (relsC P 2).length + 2 := length_relsC P 2
  have h4 : (relsC P 4).length = (relsC P 3).length + 3 := length_relsC P 3
  have : P.n = 0 ∨ P.n = 1 ∨ P.n = 2 ∨ P.n = 3 ∨ P.n = 4 := by omega
  rcases this with e | e | e | e | e <;> rw [e] <;> omega
theorem ord_le {P : PcD} (hv : Valid P) : ∀ m, m ≤ P.n → ∀ j, j < m → P.ord j * (if 2 ≤ m then 2 else 1) ≤ prod P m
  | 0, _, _, h => absurd h (Nat.not_lt_zero _)
  | m + 1, hm, j, hj => by
    rw [prod_succ]
    have h2 := hv.ord2 m (by omega)
    have hp := prod_pos hv m (by omega)
    rcases Nat.lt_or_ge j m with h | h
    · have h1 := ord_le hv m (by omega) j h
      have hj2 := hv.ord2 j (by omega)
      rw [if_pos (by omega)]
      have h3 : P.ord j ≤ prod P m := by
        split at h1
        · omega
        · omega
      calc P.ord j * 2 ≤ prod P m * 2 := Int.mul_le_mul_of_nonneg_right h3 (by omega)
        _ ≤ prod P m * P.ord m := Int.mul_le_mul_of_nonneg_left h2.1 (by omega)
    · obtain rfl : j = m := by omega
      split
      · rename_i h2m
        have h3 : 2 ≤ prod P j := by
          obtain ⟨i, rfl⟩ : ∃ i, j = i + 1 := ⟨j - 1, by omega⟩
          have h4 := prod_pos hv i (by omega)
          have h5 := hv.ord2 i (by omega)
          rw [prod_succ]
          calc (2 : Int) = 1 * 2 := rfl
            _ ≤ prod P i * 2 := Int.mul_le_mul_of_nonneg_right h4 (by omega)
            _ ≤ prod P i * P.ord i := Int.mul_le_mul_of_nonneg_left h5.1 (by omega)
        rw [Int.mul_comm]
        exact Int.mul_le_mul_of_nonneg_right h3 (by omega)
      · rw [Int.mul_comm]
        exact Int.mul_le_mul_of_nonneg_right hp (by omega)
theorem tot_small {P : PcD} (hv : Valid P) (hn : P.n ≤ 4) (hp : prod P P.n ≤ 100) : tot (rels P) ≤ 4000 := by
  have hb : ∀ w ∈ rels P, w.length ≤ 400 := fun w hw => by
    have hN : P.n = 1 ∨ 2 ≤ P.n ∨ P.n = 0 := by omega
    rcases hN with h1 | h2 | h0
    · have ho : ∀ k, k < P.n → P.ord k ≤ 100 := fun k hk => by
        have := ord_le hv P.n (Nat.le_refl _) k hk
        rw [if_neg (by omega)] at this
        omega
      rcases rels_cases hw with ⟨i, hi, rfl⟩ | ⟨i, j, hij, hj, rfl⟩
      · have h3 := backTo_len' (P.pow i) P.n 100 (fun k hk => by have := (hv.pow i hi).2 k hk; have := ho k hk; omega) P.n (Nat.le_refl _)
        have h4 := ho i hi
        unfold relW
        rw [List.length_append, List.length_replicate]
        show _ + (backTo (P.pow i) P.n P.n).length ≤ _
        rw [h1] at h3 ⊢
        omega
      · omega
    · have ho : ∀ k, k < P.n → P.ord k ≤ 50 := fun k hk => by
        have := ord_le hv P.n (Nat.le_refl _) k hk
        rw [if_pos h2] at this
        omega
      rcases rels_cases hw with ⟨i, hi, rfl⟩ | ⟨i, j, hij, hj, rfl⟩
      · have h3 := backTo_len' (P.pow i) P.n 50 (fun k hk => by have := (hv.pow i hi).2 k hk; have := ho k hk; omega) P.n (Nat.le_refl _)
        have h4 := ho i hi
        unfold relW
        rw [List.length_append, List.length_replicate]
        show _ + (backTo (P.pow i) P.n P.n).length ≤ _
        omega
      · have h3 := backTo_len' (P.cj j i) P.n 50 (fun k hk => by have := (hv.cj j hj i hij).2 k hk; have := ho k hk; omega) P.n (Nat.le_refl _)
        unfold relC
        rw [List.length_append]
        show 3 + (backTo (P.cj j i) P.n P.n).length ≤ _
        omega
    · rcases rels_cases hw with ⟨i, hi, rfl⟩ | ⟨i, j, hij, hj, rfl⟩ <;> omega
  have h1 := tot_le (rels P) hb
  have h2 := length_rels hn
  omega
end Go.Proofs.Pc
namespace Go.Proofs.B18
open Go.RowKit Go.Shelf Go.Proofs.Ct Go.Proofs.Pc Go.Maps
/-- an error, or a coset table -/
theorem enum_coset {g : Nat} {rels : List W} {lim : Nat} (hg : 1 ≤ g ∧ g ≤ 16) (hl : 1 ≤ lim ∧ lim ≤ 20000) (hr : ∀ j, j < rels.length → LOk g (rels.getD j [])) :
    (∃ x, x ≠ 0 ∧ enumE g rels [] (lim : Int) = ([], (0, 0), x)) ∨ ∃ t a b, enumE g rels [] (lim : Int) = (t, (a, b), 0) ∧ Coset g rels [] t := by
  by_cases hp : presE g rels = 0
  · have hb : badArgs g [] (lim : Int) = false := by
      unfold badArgs
      simp [sumTo, Ct.foldTo]
      omega
    cases hx : runS (2 * g) lim rels [] with
    | none => exact .inl ⟨12, by omega, enumE_full hp hb hx⟩
    | some s =>
      obtain ⟨h1, h2, h3⟩ := coset_of_run hg.1 hg.2 hl.2 hl.1 hr (sub := []) (fun j hj => absurd hj (Nat.not_lt_zero j)) hx
      exact .inr ⟨_, _, _, by rw [enumE_some hp hb hx, h2], h1⟩
  · exact .inl ⟨_, hp, enumE_pres hp⟩
end Go.Proofs.B18
namespace Go.Proofs
open Go.RowKit Go.Shelf Go.Proofs.Ct Go.Proofs.Pc Go.Maps
theorem tab18 {w : World} {v : Value} {l : List (List Int)} (h : Tab w v l) : B18.Tab w v l := h
theorem of_tab18 {w : World} {v : Value} {l : List (List Int)} (h : B18.Tab w v l) : Tab w v l := h
end Go.Proofs
