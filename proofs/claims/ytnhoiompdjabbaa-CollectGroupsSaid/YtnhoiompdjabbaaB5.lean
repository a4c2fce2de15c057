/- The walk of CollectKnown. -/
import Derived.Test.YtnhoiompdjabbaaB4
namespace Go.Proofs
open Go.RowKit Go.Proofs.Pc

set_option maxRecDepth 100000 in
set_option maxHeartbeats 8000000 in
theorem kn_walk (w : World) : Calls Try.prog 7 #[] w fun e w' => e = .returned (.bool true) ∧ Below w.heap.size w w' := by
  have hv := kv0
  have hp0 : prod (knownD 0) (knownD 0).n ≤ 50000 := by rw [prod_known0]; omega
  go_enter Try.func7, Try.ntmps7
  go_wp2_with fail
  refine (known_0 _ 0 (by omega) rfl).mono ?_
  rintro e w1 ⟨⟨u0, u1, u2, rfl, hp⟩, hb1⟩
  have HP := Lib.hid hp; have HB := Lib.hid hb1; clear hp hb1
  go_wp2_with fail
  refine (new_good _ _ _ _ _ HP.out (by rw [check_known0]) cons_known0).mono ?_
  rintro e w2 ⟨⟨bg, br, rfl, hg, -⟩, hb2⟩
  have HG := Lib.hid hg; have HB := Lib.hid (HB.out.trans (hb2.mono HB.out.size)); clear hg hb2 HP
  have hal := ((Below.refl w2.heap.size w2).alloc (Nat.le_refl _) (.cells #[.int .i64 1, .int .i64 0, .int .i64 0] 3))
  have HGA := Lib.hid (HG.out.below hal)
  go_wp2_with fail
  refine (inv_live hv _ bg br HGA.out.live HGA.out.rules _ [1, 0, 0] (one_ints _ [1, 0, 0] rfl (by decide) 3 rfl) kt1).mono ?_
  rintro e w3 ⟨⟨v, rfl, hx⟩, hb⟩
  rw [kinv] at hx
  obtain ⟨A3, c3, rfl, -⟩ := hx.open_
  have hb := hal.trans (hb.mono hal.size)
  have HG := Lib.hid (HG.out.below hb)
  have HB := Lib.hid (HB.out.trans (hb.mono HB.out.size))
  have HA := Lib.hid hx
  clear hx hb hal HGA
  have hal := ((Below.refl w3.heap.size w3).alloc (Nat.le_refl _) (.cells #[.int .i64 1, .int .i64 1, .int .i64 0] 3))
  have HGA := Lib.hid (HG.out.below hal)
  go_wp2_with fail
  refine (pow_live hv cons_known0 hp0 _ bg br HGA.out.live HGA.out.rules _ [1, 1, 0] 3 (one_ints _ [1, 1, 0] rfl (by decide) 3 rfl) kt2 4 kper1 (by omega)).mono ?_
  rintro e w4 ⟨⟨v, rfl, hx⟩, hb⟩
  rw [kpow] at hx
  obtain ⟨A4, c4, rfl, -⟩ := hx.open_
  have hb := hal.trans (hb.mono hal.size)
  have HG := Lib.hid (HG.out.below hb)
  have HA := Lib.hid (HA.out.below hb)
  have HB := Lib.hid (HB.out.trans (hb.mono HB.out.size))
  have HBv := Lib.hid hx
  clear hx hb hal HGA
  have hal := ((Below.refl w4.heap.size w4).alloc (Nat.le_refl _) (.cells #[.int .i64 1, .int .i64 2, .int .i64 (-1), .int .i64 (-2)] 3))
  have HGA := Lib.hid (HG.out.below hal)
  go_wp2_with fail
  refine (eval_live hv _ bg br HGA.out.live HGA.out.rules _ [1, 2, -1, -2] (one_ints _ [1, 2, -1, -2] rfl (by decide) 4 rfl) (by decide) kgood).mono ?_
  rintro e w5 ⟨⟨v, rfl, hx⟩, hb⟩
  rw [kev] at hx
  obtain ⟨A5, c5, rfl, -⟩ := hx.open_
  have hb := hal.trans (hb.mono hal.size)
  have HG := Lib.hid (HG.out.below hb)
  have HA := Lib.hid (HA.out.below hb)
  have HBv := Lib.hid (HBv.out.below hb)
  have HB := Lib.hid (HB.out.trans (hb.mono HB.out.size))
  have HCv := Lib.hid hx
  clear hx hb hal HGA
  have hal := ((Below.refl w5.heap.size w5).alloc (Nat.le_refl _) (.cells #[.int .i64 1, .int .i64 0, .int .i64 1] 3))
  go_wp2_with fail
  refine (equal_yes _ _ _ [1, 0, 1] [1, 0, 1] (HA.out.below hal) (one_ints _ [1, 0, 1] rfl (by decide) 3 rfl) rfl).mono ?_
  rintro e w6 ⟨rfl, hb⟩
  have hb := hal.trans (hb.mono hal.size)
  clear HA
  have HG := Lib.hid (HG.out.below hb)
  have HBv := Lib.hid (HBv.out.below hb)
  have HCv := Lib.hid (HCv.out.below hb)
  have HB := Lib.hid (HB.out.trans (hb.mono HB.out.size))
  clear hb hal
  have hal := ((Below.refl w6.heap.size w6).alloc (Nat.le_refl _) (.cells #[.int .i64 1, .int .i64 1, .int .i64 1] 3))
  go_wp2_with fail
  refine (equal_yes _ _ _ [1, 1, 1] [1, 1, 1] (HBv.out.below hal) (one_ints _ [1, 1, 1] rfl (by decide) 3 rfl) rfl).mono ?_
  rintro e w7 ⟨rfl, hb⟩
  have hb := hal.trans (hb.mono hal.size)
  clear HBv
  have HG := Lib.hid (HG.out.below hb)
  have HCv := Lib.hid (HCv.out.below hb)
  have HB := Lib.hid (HB.out.trans (hb.mono HB.out.size))
  clear hb hal
  have hal := ((Below.refl w7.heap.size w7).alloc (Nat.le_refl _) (.cells #[.int .i64 0, .int .i64 0, .int .i64 1] 3))
  go_wp2_with fail
  refine (equal_yes _ _ _ [0, 0, 1] [0, 0, 1] (HCv.out.below hal) (one_ints _ [0, 0, 1] rfl (by decide) 3 rfl) rfl).mono ?_
  rintro e w8 ⟨rfl, hb⟩
  have hb := hal.trans (hb.mono hal.size)
  clear HCv
  have HG := Lib.hid (HG.out.below hb)
  have HB := Lib.hid (HB.out.trans (hb.mono HB.out.size))
  clear hb hal
  have hal := ((Below.refl w8.heap.size w8).alloc (Nat.le_refl _) (.cells #[.int .i64 0, .int .i64 1, .int .i64 1] 3))
  have HGA := Lib.hid (HG.out.below hal)
  go_wp2_with fail
  refine (per_live hv cons_known0 hp0 _ bg br HGA.out.live HGA.out.rules _ [0, 1, 1] (one_ints _ [0, 1, 1] rfl (by decide) 3 rfl) kt3).mono ?_
  rintro e w9 ⟨⟨n, hn, -, rfl⟩, hb⟩
  obtain rfl := hn.unique kper2
  have hb := hal.trans (hb.mono hal.size)
  have HG := Lib.hid (HG.out.below hb)
  have HB := Lib.hid (HB.out.trans (hb.mono HB.out.size))
  clear hn hb hal HGA
  have hal := ((Below.refl w9.heap.size w9).alloc (Nat.le_refl _) (.cells #[.int .i64 1, .int .i64 0, .int .i64 1] 3))
  have HGA := Lib.hid (HG.out.below hal)
  go_wp2_with fail
  refine (rank_live hv small_known0 _ bg br HGA.out.live HGA.out.rules _ [1, 0, 1] (one_ints _ [1, 0, 1] rfl (by decide) 3 rfl) kt4).mono ?_
  rintro e w10 ⟨rfl, hb⟩
  rw [krk]
  have hb := hal.trans (hb.mono hal.size)
  have HG := Lib.hid (HG.out.below hb)
  have HB := Lib.hid (HB.out.trans (hb.mono HB.out.size))
  clear hb hal HGA
  go_wp2_with fail
  refine (element_live hv small_known0 _ bg br HG.out.live HG.out.rules 6 (by omega) (by rw [prod_known0]; omega)).mono ?_
  rintro e w11 ⟨⟨v, rfl, hx⟩, hb⟩
  rw [kel] at hx
  obtain ⟨A11, c11, rfl, -⟩ := hx.open_
  have HG := Lib.hid (HG.out.below hb)
  have HB := Lib.hid (HB.out.trans (hb.mono HB.out.size))
  have HD := Lib.hid hx
  clear hx hb
  go_wp2_with fail
  refine (element_bad hv small_known0 _ bg br HG.out.live HG.out.rules 8 (.inr (by rw [prod_known0]; omega))).mono ?_
  rintro e w' ⟨rfl, rfl⟩
  have hal := ((Below.refl w11.heap.size w11).alloc (Nat.le_refl _) (.cells #[.int .i64 1, .int .i64 1, .int .i64 0] 3))
  go_wp2_with fail
  refine (equal_yes _ _ _ [1, 1, 0] [1, 1, 0] (HD.out.below hal) (one_ints _ [1, 1, 0] rfl (by decide) 3 rfl) rfl).mono ?_
  rintro e w12 ⟨rfl, hb⟩
  have hb := hal.trans (hb.mono hal.size)
  clear HD
  have HG := Lib.hid (HG.out.below hb)
  have HB := Lib.hid (HB.out.trans (hb.mono HB.out.size))
  clear hb hal
  clear HG
  have hal : Below w12.heap.size w12 (allocs w12 [.cells #[.int .i64 3, .int .i64 2] 3, .cells #[.int .i64 0, .int .i64 0] 3, .cells #[.int .i64 0, .int .i64 0] 3, .cells #[.slice (some ⟨w12.heap.size + 1, 0, none⟩) 2 2, .slice (some ⟨w12.heap.size + 1 + 1, 0, none⟩) 2 2] 22, .cells #[] 22, .cells #[.int .i64 0, .int .i64 1] 3, .cells #[.slice (some ⟨w12.heap.size + 1 + 1 + 1 + 1 + 1, 0, none⟩) 2 2] 22, .cells #[.slice (some ⟨w12.heap.size + 1 + 1 + 1 + 1, 0, none⟩) 0 0, .slice (some ⟨w12.heap.size + 1 + 1 + 1 + 1 + 1 + 1, 0, none⟩) 1 1] 23]) := allocs_below _ _ _ (Nat.le_refl _)
  have lk := allocs_get [.cells #[.int .i64 3, .int .i64 2] 3, .cells #[.int .i64 0, .int .i64 0] 3, .cells #[.int .i64 0, .int .i64 0] 3, .cells #[.slice (some ⟨w12.heap.size + 1, 0, none⟩) 2 2, .slice (some ⟨w12.heap.size + 1 + 1, 0, none⟩) 2 2] 22, .cells #[] 22, .cells #[.int .i64 0, .int .i64 1] 3, .cells #[.slice (some ⟨w12.heap.size + 1 + 1 + 1 + 1 + 1, 0, none⟩) 2 2] 22, .cells #[.slice (some ⟨w12.heap.size + 1 + 1 + 1 + 1, 0, none⟩) 0 0, .slice (some ⟨w12.heap.size + 1 + 1 + 1 + 1 + 1 + 1, 0, none⟩) 1 1] 23] w12
  have hpc : PcAt (allocs w12 [.cells #[.int .i64 3, .int .i64 2] 3, .cells #[.int .i64 0, .int .i64 0] 3, .cells #[.int .i64 0, .int .i64 0] 3, .cells #[.slice (some ⟨w12.heap.size + 1, 0, none⟩) 2 2, .slice (some ⟨w12.heap.size + 1 + 1, 0, none⟩) 2 2] 22, .cells #[] 22, .cells #[.int .i64 0, .int .i64 1] 3, .cells #[.slice (some ⟨w12.heap.size + 1 + 1 + 1 + 1 + 1, 0, none⟩) 2 2] 22, .cells #[.slice (some ⟨w12.heap.size + 1 + 1 + 1 + 1, 0, none⟩) 0 0, .slice (some ⟨w12.heap.size + 1 + 1 + 1 + 1 + 1 + 1, 0, none⟩) 1 1] 23]) (.slice (some ⟨w12.heap.size, 0, none⟩) 2 2) (.slice (some ⟨w12.heap.size + 1 + 1 + 1, 0, none⟩) 2 2) (.slice (some ⟨w12.heap.size + 1 + 1 + 1 + 1 + 1 + 1 + 1, 0, none⟩) 2 2) sixD := ⟨ints_lit _ (lk 0 _ rfl) rfl (by decide) rfl, tab_lit (lk 3 _ rfl) rfl (by decide) ⟨ints_lit _ (lk 1 _ rfl) rfl (by decide) rfl, ints_lit _ (lk 2 _ rfl) rfl (by decide) rfl, trivial⟩, tab3_lit (lk 7 _ rfl) rfl (by decide) ⟨tab_lit (vs := []) (lk 4 _ rfl) rfl (by decide) trivial, tab_lit (lk 6 _ rfl) rfl (by decide) ⟨ints_lit _ (lk 5 _ rfl) rfl (by decide) rfl, trivial⟩, trivial⟩⟩
  have hal2 : Below (allocs w12 [.cells #[.int .i64 3, .int .i64 2] 3, .cells #[.int .i64 0, .int .i64 0] 3, .cells #[.int .i64 0, .int .i64 0] 3, .cells #[.slice (some ⟨w12.heap.size + 1, 0, none⟩) 2 2, .slice (some ⟨w12.heap.size + 1 + 1, 0, none⟩) 2 2] 22, .cells #[] 22, .cells #[.int .i64 0, .int .i64 1] 3, .cells #[.slice (some ⟨w12.heap.size + 1 + 1 + 1 + 1 + 1, 0, none⟩) 2 2] 22, .cells #[.slice (some ⟨w12.heap.size + 1 + 1 + 1 + 1, 0, none⟩) 0 0, .slice (some ⟨w12.heap.size + 1 + 1 + 1 + 1 + 1 + 1, 0, none⟩) 1 1] 23]).heap.size (allocs w12 [.cells #[.int .i64 3, .int .i64 2] 3, .cells #[.int .i64 0, .int .i64 0] 3, .cells #[.int .i64 0, .int .i64 0] 3, .cells #[.slice (some ⟨w12.heap.size + 1, 0, none⟩) 2 2, .slice (some ⟨w12.heap.size + 1 + 1, 0, none⟩) 2 2] 22, .cells #[] 22, .cells #[.int .i64 0, .int .i64 1] 3, .cells #[.slice (some ⟨w12.heap.size + 1 + 1 + 1 + 1 + 1, 0, none⟩) 2 2] 22, .cells #[.slice (some ⟨w12.heap.size + 1 + 1 + 1 + 1, 0, none⟩) 0 0, .slice (some ⟨w12.heap.size + 1 + 1 + 1 + 1 + 1 + 1, 0, none⟩) 1 1] 23]) ((allocs w12 [.cells #[.int .i64 3, .int .i64 2] 3, .cells #[.int .i64 0, .int .i64 0] 3, .cells #[.int .i64 0, .int .i64 0] 3, .cells #[.slice (some ⟨w12.heap.size + 1, 0, none⟩) 2 2, .slice (some ⟨w12.heap.size + 1 + 1, 0, none⟩) 2 2] 22, .cells #[] 22, .cells #[.int .i64 0, .int .i64 1] 3, .cells #[.slice (some ⟨w12.heap.size + 1 + 1 + 1 + 1 + 1, 0, none⟩) 2 2] 22, .cells #[.slice (some ⟨w12.heap.size + 1 + 1 + 1 + 1, 0, none⟩) 0 0, .slice (some ⟨w12.heap.size + 1 + 1 + 1 + 1 + 1 + 1, 0, none⟩) 1 1] 23]).alloc (.cells #[.slice (some ⟨w12.heap.size, 0, none⟩) 2 2, .slice (some ⟨w12.heap.size + 1 + 1 + 1, 0, none⟩) 2 2, .slice (some ⟨w12.heap.size + 1 + 1 + 1 + 1 + 1 + 1 + 1, 0, none⟩) 2 2] 26)) := (Below.refl _ _).alloc (Nat.le_refl _) _
  have hpc2 := hpc.below hal2
  have hal3 := hal.trans (hal2.mono hal.size)
  have HPC := Lib.hid hpc2; have HAL := Lib.hid hal3
  clear hal lk hpc hal2 hpc2 hal3
  go_wp2_with fail
  refine (cons14_good _ _ _ _ sixD HPC.out six1).mono ?_
  rintro e w13 ⟨rfl, hb⟩
  rw [six2]
  have HB := Lib.hid (HB.out.trans ((HAL.out.trans (hb.mono HAL.out.size)).mono HB.out.size)); clear hb HAL HPC
  go_wp2_with fail
  refine (known_2 _ 2 (by omega) rfl).mono ?_
  rintro e w14 ⟨⟨x0, x1, x2, rfl, hp⟩, hb⟩
  have HPC := Lib.hid hp; have HB := Lib.hid (HB.out.trans (hb.mono HB.out.size)); clear hp hb
  go_wp2_with fail
  refine (cons14_good _ _ _ _ (knownD 2) HPC.out two1).mono ?_
  rintro e w15 ⟨rfl, hb⟩
  rw [two2]
  have HB := Lib.hid (HB.out.trans (hb.mono HB.out.size)); clear hb HPC
  have hal : Below w15.heap.size w15 (allocs w15 [.cells #[.int .i64 2, .int .i64 3] 3, .cells #[.int .i64 0, .int .i64 1] 3, .cells #[.int .i64 0, .int .i64 0] 3, .cells #[.slice (some ⟨w15.heap.size + 1, 0, none⟩) 2 2, .slice (some ⟨w15.heap.size + 1 + 1, 0, none⟩) 2 2] 22, .cells #[] 22, .cells #[.int .i64 0, .int .i64 2] 3, .cells #[.slice (some ⟨w15.heap.size + 1 + 1 + 1 + 1 + 1, 0, none⟩) 2 2] 22, .cells #[.slice (some ⟨w15.heap.size + 1 + 1 + 1 + 1, 0, none⟩) 0 0, .slice (some ⟨w15.heap.size + 1 + 1 + 1 + 1 + 1 + 1, 0, none⟩) 1 1] 23]) := allocs_below _ _ _ (Nat.le_refl _)
  have lk := allocs_get [.cells #[.int .i64 2, .int .i64 3] 3, .cells #[.int .i64 0, .int .i64 1] 3, .cells #[.int .i64 0, .int .i64 0] 3, .cells #[.slice (some ⟨w15.heap.size + 1, 0, none⟩) 2 2, .slice (some ⟨w15.heap.size + 1 + 1, 0, none⟩) 2 2] 22, .cells #[] 22, .cells #[.int .i64 0, .int .i64 2] 3, .cells #[.slice (some ⟨w15.heap.size + 1 + 1 + 1 + 1 + 1, 0, none⟩) 2 2] 22, .cells #[.slice (some ⟨w15.heap.size + 1 + 1 + 1 + 1, 0, none⟩) 0 0, .slice (some ⟨w15.heap.size + 1 + 1 + 1 + 1 + 1 + 1, 0, none⟩) 1 1] 23] w15
  have hpc : PcAt (allocs w15 [.cells #[.int .i64 2, .int .i64 3] 3, .cells #[.int .i64 0, .int .i64 1] 3, .cells #[.int .i64 0, .int .i64 0] 3, .cells #[.slice (some ⟨w15.heap.size + 1, 0, none⟩) 2 2, .slice (some ⟨w15.heap.size + 1 + 1, 0, none⟩) 2 2] 22, .cells #[] 22, .cells #[.int .i64 0, .int .i64 2] 3, .cells #[.slice (some ⟨w15.heap.size + 1 + 1 + 1 + 1 + 1, 0, none⟩) 2 2] 22, .cells #[.slice (some ⟨w15.heap.size + 1 + 1 + 1 + 1, 0, none⟩) 0 0, .slice (some ⟨w15.heap.size + 1 + 1 + 1 + 1 + 1 + 1, 0, none⟩) 1 1] 23]) (.slice (some ⟨w15.heap.size, 0, none⟩) 2 2) (.slice (some ⟨w15.heap.size + 1 + 1 + 1, 0, none⟩) 2 2) (.slice (some ⟨w15.heap.size + 1 + 1 + 1 + 1 + 1 + 1 + 1, 0, none⟩) 2 2) badD := ⟨ints_lit _ (lk 0 _ rfl) rfl (by decide) rfl, tab_lit (lk 3 _ rfl) rfl (by decide) ⟨ints_lit _ (lk 1 _ rfl) rfl (by decide) rfl, ints_lit _ (lk 2 _ rfl) rfl (by decide) rfl, trivial⟩, tab3_lit (lk 7 _ rfl) rfl (by decide) ⟨tab_lit (vs := []) (lk 4 _ rfl) rfl (by decide) trivial, tab_lit (lk 6 _ rfl) rfl (by decide) ⟨ints_lit _ (lk 5 _ rfl) rfl (by decide) rfl, trivial⟩, trivial⟩⟩
  have hal2 : Below (allocs w15 [.cells #[.int .i64 2, .int .i64 3] 3, .cells #[.int .i64 0, .int .i64 1] 3, .cells #[.int .i64 0, .int .i64 0] 3, .cells #[.slice (some ⟨w15.heap.size + 1, 0, none⟩) 2 2, .slice (some ⟨w15.heap.size + 1 + 1, 0, none⟩) 2 2] 22, .cells #[] 22, .cells #[.int .i64 0, .int .i64 2] 3, .cells #[.slice (some ⟨w15.heap.size + 1 + 1 + 1 + 1 + 1, 0, none⟩) 2 2] 22, .cells #[.slice (some ⟨w15.heap.size + 1 + 1 + 1 + 1, 0, none⟩) 0 0, .slice (some ⟨w15.heap.size + 1 + 1 + 1 + 1 + 1 + 1, 0, none⟩) 1 1] 23]).heap.size (allocs w15 [.cells #[.int .i64 2, .int .i64 3] 3, .cells #[.int .i64 0, .int .i64 1] 3, .cells #[.int .i64 0, .int .i64 0] 3, .cells #[.slice (some ⟨w15.heap.size + 1, 0, none⟩) 2 2, .slice (some ⟨w15.heap.size + 1 + 1, 0, none⟩) 2 2] 22, .cells #[] 22, .cells #[.int .i64 0, .int .i64 2] 3, .cells #[.slice (some ⟨w15.heap.size + 1 + 1 + 1 + 1 + 1, 0, none⟩) 2 2] 22, .cells #[.slice (some ⟨w15.heap.size + 1 + 1 + 1 + 1, 0, none⟩) 0 0, .slice (some ⟨w15.heap.size + 1 + 1 + 1 + 1 + 1 + 1, 0, none⟩) 1 1] 23]) ((allocs w15 [.cells #[.int .i64 2, .int .i64 3] 3, .cells #[.int .i64 0, .int .i64 1] 3, .cells #[.int .i64 0, .int .i64 0] 3, .cells #[.slice (some ⟨w15.heap.size + 1, 0, none⟩) 2 2, .slice (some ⟨w15.heap.size + 1 + 1, 0, none⟩) 2 2] 22, .cells #[] 22, .cells #[.int .i64 0, .int .i64 2] 3, .cells #[.slice (some ⟨w15.heap.size + 1 + 1 + 1 + 1 + 1, 0, none⟩) 2 2] 22, .cells #[.slice (some ⟨w15.heap.size + 1 + 1 + 1 + 1, 0, none⟩) 0 0, .slice (some ⟨w15.heap.size + 1 + 1 + 1 + 1 + 1 + 1, 0, none⟩) 1 1] 23]).alloc (.cells #[.slice (some ⟨w15.heap.size, 0, none⟩) 2 2, .slice (some ⟨w15.heap.size + 1 + 1 + 1, 0, none⟩) 2 2, .slice (some ⟨w15.heap.size + 1 + 1 + 1 + 1 + 1 + 1 + 1, 0, none⟩) 2 2] 26)) := (Below.refl _ _).alloc (Nat.le_refl _) _
  have hpc2 := hpc.below hal2
  have hal3 := hal.trans (hal2.mono hal.size)
  have HPC := Lib.hid hpc2; have HAL := Lib.hid hal3
  have HBOX : Hid (((allocs w15 [.cells #[.int .i64 2, .int .i64 3] 3, .cells #[.int .i64 0, .int .i64 1] 3, .cells #[.int .i64 0, .int .i64 0] 3, .cells #[.slice (some ⟨w15.heap.size + 1, 0, none⟩) 2 2, .slice (some ⟨w15.heap.size + 1 + 1, 0, none⟩) 2 2] 22, .cells #[] 22, .cells #[.int .i64 0, .int .i64 2] 3, .cells #[.slice (some ⟨w15.heap.size + 1 + 1 + 1 + 1 + 1, 0, none⟩) 2 2] 22, .cells #[.slice (some ⟨w15.heap.size + 1 + 1 + 1 + 1, 0, none⟩) 0 0, .slice (some ⟨w15.heap.size + 1 + 1 + 1 + 1 + 1 + 1, 0, none⟩) 1 1] 23]).alloc (.cells #[.slice (some ⟨w15.heap.size, 0, none⟩) 2 2, .slice (some ⟨w15.heap.size + 1 + 1 + 1, 0, none⟩) 2 2, .slice (some ⟨w15.heap.size + 1 + 1 + 1 + 1 + 1 + 1 + 1, 0, none⟩) 2 2] 26)).heap[(allocs w15 [.cells #[.int .i64 2, .int .i64 3] 3, .cells #[.int .i64 0, .int .i64 1] 3, .cells #[.int .i64 0, .int .i64 0] 3, .cells #[.slice (some ⟨w15.heap.size + 1, 0, none⟩) 2 2, .slice (some ⟨w15.heap.size + 1 + 1, 0, none⟩) 2 2] 22, .cells #[] 22, .cells #[.int .i64 0, .int .i64 2] 3, .cells #[.slice (some ⟨w15.heap.size + 1 + 1 + 1 + 1 + 1, 0, none⟩) 2 2] 22, .cells #[.slice (some ⟨w15.heap.size + 1 + 1 + 1 + 1, 0, none⟩) 0 0, .slice (some ⟨w15.heap.size + 1 + 1 + 1 + 1 + 1 + 1, 0, none⟩) 1 1] 23]).heap.size]? = some (.cells #[.slice (some ⟨w15.heap.size, 0, none⟩) 2 2, .slice (some ⟨w15.heap.size + 1 + 1 + 1, 0, none⟩) 2 2, .slice (some ⟨w15.heap.size + 1 + 1 + 1 + 1 + 1 + 1 + 1, 0, none⟩) 2 2] 26 (0, 0))) := Lib.hid (heap_alloc_new _ _)
  clear hal lk hpc hal2 hpc2 hal3
  go_wp2_with fail
  refine (cons14_good _ _ _ _ badD HPC.out bad1).mono ?_
  rintro e w16 ⟨rfl, hb⟩
  rw [bad2]
  have HPC := Lib.hid (HPC.out.below hb)
  have hbx := (hb.block _ (Array.getElem?_eq_some_iff.1 HBOX.out).1).trans HBOX.out
  have b0 := (cell_of_row _ _ 0 _ _ _ hbx).trans rfl; have b1 := (cell_of_row _ _ 1 _ _ _ hbx).trans rfl; have b2 := (cell_of_row _ _ 2 _ _ _ hbx).trans rfl
  simp only [allocs, World.size_alloc] at b0 b1 b2
  have HB := Lib.hid (HB.out.trans ((HAL.out.trans (hb.mono HAL.out.size)).mono HB.out.size)); clear hb hbx HAL HBOX
  go_wp2_with fail
  refine (new_inc _ _ _ _ badD HPC.out bad1 bad2).mono ?_
  rintro e w17 ⟨rfl, hb⟩
  have HB := Lib.hid (HB.out.trans (hb.mono HB.out.size)); clear hb HPC b0 b1 b2
  go_wp2_with fail
  refine (known_1 _ 1 (by omega) rfl).mono ?_
  rintro e w18 ⟨⟨y0, y1, y2, rfl, hp⟩, hb⟩
  have HPC := Lib.hid hp; have HB := Lib.hid (HB.out.trans (hb.mono HB.out.size)); clear hp hb
  go_wp2_with fail
  refine (rel_any _ _ _ _ _ HPC.out).mono ?_
  intro e w19 hr
  obtain ⟨Ar, cr, rfl, hta, hb⟩ := hr.open_ one1
  have HB := Lib.hid (HB.out.trans (hb.mono HB.out.size)); clear hr hb HPC
  have hal : Below w19.heap.size w19 (allocs w19 [.cells #[.int .i64 2, .slice Ar 3 cr] 46, .cells #[.int .i64 1, .int .i64 1] 3, .cells #[.int .i64 2, .int .i64 2, .int .i64 2] 3, .cells #[.int .i64 (-1), .int .i64 2, .int .i64 1, .int .i64 (-2), .int .i64 (-2)] 3, .cells #[.slice (some ⟨w19.heap.size + 1, 0, none⟩) 2 2, .slice (some ⟨w19.heap.size + 1 + 1, 0, none⟩) 3 3, .slice (some ⟨w19.heap.size + 1 + 1 + 1, 0, none⟩) 5 5] 50]) := allocs_below _ _ _ (Nat.le_refl _)
  have lk := allocs_get [.cells #[.int .i64 2, .slice Ar 3 cr] 46, .cells #[.int .i64 1, .int .i64 1] 3, .cells #[.int .i64 2, .int .i64 2, .int .i64 2] 3, .cells #[.int .i64 (-1), .int .i64 2, .int .i64 1, .int .i64 (-2), .int .i64 (-2)] 3, .cells #[.slice (some ⟨w19.heap.size + 1, 0, none⟩) 2 2, .slice (some ⟨w19.heap.size + 1 + 1, 0, none⟩) 3 3, .slice (some ⟨w19.heap.size + 1 + 1 + 1, 0, none⟩) 5 5] 50] w19
  have htb : Tab (allocs w19 [.cells #[.int .i64 2, .slice Ar 3 cr] 46, .cells #[.int .i64 1, .int .i64 1] 3, .cells #[.int .i64 2, .int .i64 2, .int .i64 2] 3, .cells #[.int .i64 (-1), .int .i64 2, .int .i64 1, .int .i64 (-2), .int .i64 (-2)] 3, .cells #[.slice (some ⟨w19.heap.size + 1, 0, none⟩) 2 2, .slice (some ⟨w19.heap.size + 1 + 1, 0, none⟩) 3 3, .slice (some ⟨w19.heap.size + 1 + 1 + 1, 0, none⟩) 5 5] 50]) (.slice (some ⟨w19.heap.size + 1 + 1 + 1 + 1, 0, none⟩) 3 3) [[1, 1], [2, 2, 2], [-1, 2, 1, -2, -2]] := tab_lit (lk 4 _ rfl) rfl (by decide) ⟨ints_lit _ (lk 1 _ rfl) rfl (by decide) rfl, ints_lit _ (lk 2 _ rfl) rfl (by decide) rfl, ints_lit _ (lk 3 _ rfl) rfl (by decide) rfl, trivial⟩
  have hta2 : Tab (allocs w19 [.cells #[.int .i64 2, .slice Ar 3 cr] 46, .cells #[.int .i64 1, .int .i64 1] 3, .cells #[.int .i64 2, .int .i64 2, .int .i64 2] 3, .cells #[.int .i64 (-1), .int .i64 2, .int .i64 1, .int .i64 (-2), .int .i64 (-2)] 3, .cells #[.slice (some ⟨w19.heap.size + 1, 0, none⟩) 2 2, .slice (some ⟨w19.heap.size + 1 + 1, 0, none⟩) 3 3, .slice (some ⟨w19.heap.size + 1 + 1 + 1, 0, none⟩) 5 5] 50]) (.slice Ar 3 cr) [[1, 1], [2, 2, 2], [-1, 2, 1, -2, -2]] := kept_tab.below hta hal
  have HTA := Lib.hid hta2; have HTB := Lib.hid htb; have HAL := Lib.hid hal; clear hal lk htb hta hta2
  go_wp2_with fail
  refine (same17_any _ 2 2 _ _ _ _ HTA.out HTB.out rfl).mono ?_
  rintro e w20 ⟨rfl, hb⟩
  rw [decide_eq_true rfl]
  have HB := Lib.hid (HB.out.trans ((HAL.out.trans (hb.mono HAL.out.size)).mono HB.out.size)); clear hb HAL HTA HTB
  have hal : Below w20.heap.size w20 (allocs w20 [.cells #[.int .i64 1] 3, .cells #[.int .i64 0] 3, .cells #[.slice (some ⟨w20.heap.size + 1, 0, none⟩) 1 1] 22, .cells #[] 22, .cells #[.slice (some ⟨w20.heap.size + 1 + 1 + 1, 0, none⟩) 0 0] 23]) := allocs_below _ _ _ (Nat.le_refl _)
  have lk := allocs_get [.cells #[.int .i64 1] 3, .cells #[.int .i64 0] 3, .cells #[.slice (some ⟨w20.heap.size + 1, 0, none⟩) 1 1] 22, .cells #[] 22, .cells #[.slice (some ⟨w20.heap.size + 1 + 1 + 1, 0, none⟩) 0 0] 23] w20
  have hpc : PcAt (allocs w20 [.cells #[.int .i64 1] 3, .cells #[.int .i64 0] 3, .cells #[.slice (some ⟨w20.heap.size + 1, 0, none⟩) 1 1] 22, .cells #[] 22, .cells #[.slice (some ⟨w20.heap.size + 1 + 1 + 1, 0, none⟩) 0 0] 23]) (.slice (some ⟨w20.heap.size, 0, none⟩) 1 1) (.slice (some ⟨w20.heap.size + 1 + 1, 0, none⟩) 1 1) (.slice (some ⟨w20.heap.size + 1 + 1 + 1 + 1, 0, none⟩) 1 1) c1D := ⟨ints_lit _ (lk 0 _ rfl) rfl (by decide) rfl, tab_lit (lk 2 _ rfl) rfl (by decide) ⟨ints_lit _ (lk 1 _ rfl) rfl (by decide) rfl, trivial⟩, tab3_lit (lk 4 _ rfl) rfl (by decide) ⟨tab_lit (vs := []) (lk 3 _ rfl) rfl (by decide) trivial, trivial⟩⟩
  have HPC := Lib.hid hpc; have HAL := Lib.hid hal; clear hal lk hpc
  go_wp2_with fail
  refine (check_any _ _ _ _ c1D HPC.out).mono ?_
  rintro e w21 ⟨rfl, hb⟩
  rw [chkc1]
  have HB := Lib.hid (HB.out.trans ((HAL.out.trans (hb.mono HAL.out.size)).mono HB.out.size)); clear hb HAL HPC
  have hal : Below w21.heap.size w21 (allocs w21 [.cells #[.int .i64 2] 3]) := allocs_below _ _ _ (Nat.le_refl _)
  have lk := allocs_get [.cells #[.int .i64 2] 3] w21
  have hpc : PcAt (allocs w21 [.cells #[.int .i64 2] 3]) (.slice (some ⟨w21.heap.size, 0, none⟩) 1 1) (.slice none 0 0) (.slice none 0 0) c2D := ⟨ints_lit _ (lk 0 _ rfl) rfl (by decide) rfl, ⟨[], nil_sl, rfl, fun i hi => absurd hi (by simp [c2D])⟩, ⟨[], nil_sl, rfl, fun i hi => absurd hi (by simp [c2D])⟩⟩
  have HPC := Lib.hid hpc; have HAL := Lib.hid hal; clear hal lk hpc
  go_wp2_with fail
  refine (check_any _ _ _ _ c2D HPC.out).mono ?_
  rintro e w22 ⟨rfl, hb⟩
  rw [chkc2]
  have HB := Lib.hid (HB.out.trans ((HAL.out.trans (hb.mono HAL.out.size)).mono HB.out.size)); clear hb HAL HPC
  have hal : Below w22.heap.size w22 (allocs w22 [.cells #[.int .i64 2] 3, .cells #[.int .i64 1] 3, .cells #[.slice (some ⟨w22.heap.size + 1, 0, none⟩) 1 1] 22, .cells #[] 22, .cells #[.slice (some ⟨w22.heap.size + 1 + 1 + 1, 0, none⟩) 0 0] 23]) := allocs_below _ _ _ (Nat.le_refl _)
  have lk := allocs_get [.cells #[.int .i64 2] 3, .cells #[.int .i64 1] 3, .cells #[.slice (some ⟨w22.heap.size + 1, 0, none⟩) 1 1] 22, .cells #[] 22, .cells #[.slice (some ⟨w22.heap.size + 1 + 1 + 1, 0, none⟩) 0 0] 23] w22
  have hpc : PcAt (allocs w22 [.cells #[.int .i64 2] 3, .cells #[.int .i64 1] 3, .cells #[.slice (some ⟨w22.heap.size + 1, 0, none⟩) 1 1] 22, .cells #[] 22, .cells #[.slice (some ⟨w22.heap.size + 1 + 1 + 1, 0, none⟩) 0 0] 23]) (.slice (some ⟨w22.heap.size, 0, none⟩) 1 1) (.slice (some ⟨w22.heap.size + 1 + 1, 0, none⟩) 1 1) (.slice (some ⟨w22.heap.size + 1 + 1 + 1 + 1, 0, none⟩) 1 1) c3D := ⟨ints_lit _ (lk 0 _ rfl) rfl (by decide) rfl, tab_lit (lk 2 _ rfl) rfl (by decide) ⟨ints_lit _ (lk 1 _ rfl) rfl (by decide) rfl, trivial⟩, tab3_lit (lk 4 _ rfl) rfl (by decide) ⟨tab_lit (vs := []) (lk 3 _ rfl) rfl (by decide) trivial, trivial⟩⟩
  have HPC := Lib.hid hpc; have HAL := Lib.hid hal; clear hal lk hpc
  go_wp2_with fail
  refine (check_any _ _ _ _ c3D HPC.out).mono ?_
  rintro e w23 ⟨rfl, hb⟩
  rw [chkc3]
  have HB := Lib.hid (HB.out.trans ((HAL.out.trans (hb.mono HAL.out.size)).mono HB.out.size)); clear hb HAL HPC
  go_wp2_with fail
  refine (awake_any _).mono ?_
  rintro e w24 ⟨rfl, hb⟩
  have HB := Lib.hid (HB.out.trans (hb.mono HB.out.size)); clear hb
  go_wp2_with fail
  go_ret
  exact ⟨rfl, HB.out⟩
end Go.Proofs
