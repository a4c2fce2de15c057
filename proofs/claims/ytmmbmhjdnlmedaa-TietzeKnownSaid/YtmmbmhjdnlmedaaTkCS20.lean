/- The walk of TietzeKnown. -/
import Derived.Test.YtmmbmhjdnlmedaaTkCS19
namespace Go.Proofs
open Go.RowKit Go.Shelf Go.Lib Go.Sort Go.Proofs.Ct Go.Proofs.Tz Go.Maps
theorem lenK (g : Int) (l : List (List Int)) (x : Int) (h : (lenL l : Int) = x) (hl : lenL l ≤ 1000000000000) (W : World) (v : Value) (hv : Tab W v l) : Calls Try.prog 5 #[.agg #[.int .i64 g, v]] W fun e w' => e = .returned (.int .i64 x) ∧ Below W.heap.size W w' := by
  have := length5_any W v g l hv hl
  rwa [h] at this
theorem elimR (n : Nat) (rels : List (List Int)) (rel gen : Int) (h1 : presE n rels = 0) (hb : rel < 0 ∨ (rels.length : Int) ≤ rel ∨ gen < 1 ∨ (n : Int) < gen) (W : World) (vr : Value) (hR : Tab W vr rels) :
    Calls Try.prog 6 #[.agg #[.int .i64 (n : Int), vr], .int .i64 rel, .int .i64 gen] W fun e w' => e = .returned (.tuple #[.agg #[.int .i64 0, .slice none 0 0], .slice none 0 0, .int .i64 2]) ∧ Below W.heap.size W w' :=
  elim6_range W vr n rels rel gen hR h1 hb
theorem simpR (n : Nat) (rels : List (List Int)) (steps : Int) (h1 : presE n rels = 0) (hb : steps < 0 ∨ 1000 < steps) (W : World) (vr : Value) (hR : Tab W vr rels) :
    Calls Try.prog 10 #[.agg #[.int .i64 (n : Int), vr], .int .i64 steps] W fun e w' => e = .returned (.tuple #[.agg #[.int .i64 0, .slice none 0 0], .slice none 0 0, .slice none 0 0, .int .i64 2]) ∧ Below W.heap.size W w' :=
  simplify10_range W vr n rels steps hR h1 hb
set_option maxRecDepth 100000 in
set_option maxHeartbeats 8000000 in
theorem tietzeKnown3_any (w : World) : Calls Try.prog 3 #[] w fun e w' => e = .returned (.bool true) ∧ Below w.heap.size w w' := by
  have HL := Lib.hid (lenK 2 [[1, 1], [1, 2, 1, 2]] 6 (by decide) (by decide))
  have HE1 := Lib.hid (elimK 2 [[1, 2, 2], [1, 1, 1]] 0 1 [[1, 1, 1, 1, 1, 1]] [[-1, -1], [1]] 1 1 2 (by decide +kernel) (by kernel_rfl) (by decide) (by decide) (by decide) rfl rfl)
  have HE2 := Lib.hid (elimK' 2 [[1, 2, 2]] 0 2 13 (by decide +kernel) (by kernel_rfl) (by decide) (by decide))
  have HE3 := Lib.hid (elimK' 1 [[1]] 0 1 13 (by decide +kernel) (by kernel_rfl) (by decide) (by decide))
  have HE4 := Lib.hid (elimR 2 [[1, 2, 2]] 1 1 (by decide +kernel) (by decide))
  have HS1 := Lib.hid (shortK 2 [[1, 1, 1], [1, 1, 2]] [[1, -2], [1, 1, 1]] true 2 (by decide +kernel) (by kernel_rfl) rfl)
  have HS2 := Lib.hid (shortK 1 [[1, 1]] [[1, 1]] false 1 (by decide +kernel) (by kernel_rfl) rfl)
  have HM1 := Lib.hid (simpK 2 [[1, 2], [1, 1, 1]] 0 2 [[1, 2], [1, 1, 1]] [[1], [2]] [1, 2] 2 2 2 (by decide +kernel) (by kernel_rfl) (by decide) rfl rfl rfl)
  have HM2 := Lib.hid (simpK 2 [[1, 2], [1, 1, 1]] 9 1 [[1, 1, 1]] [[1], [-1]] [1] 1 2 1 (by decide +kernel) (by kernel_rfl) (by decide) rfl rfl rfl)
  have HM3 := Lib.hid (simpR 2 [[1]] (-1) (by decide +kernel) (by decide))
  go_enter Try.func3, Try.ntmps3
  have HB0 := Lib.hid (Below.refl w.heap.size w)
  have ht := lit2 w [1, 1] [1, 2, 1, 2] (fits_lit (by decide)) (fits_lit (by decide)) rfl rfl (by decide) (e := 24)
  have hx := lit2_below w [1, 1] [1, 2, 1, 2] 2 4 (e := 24)
  have HT1 := Lib.hid ht
  have HL2 := Lib.hid hx
  clear ht hx
  have HB3 := Lib.hid (bl3 HB0.out HL2.out)
  clear HB0
  go_wp2_with fail
  refine (HL.out _ _ HT1.out).mono ?_
  rintro e v4 ⟨rfl, hb⟩
  have HB5 := Lib.hid (bl3 HB3.out hb)
  have HF6 := Lib.hid (kept_tab.below HT1.out hb)
  clear HT1
  clear HB3
  clear hb
  clear HF6
  have ht := lit2 v4 [1, 2, 2] [1, 1, 1] (fits_lit (by decide)) (fits_lit (by decide)) rfl rfl (by decide) (e := 24)
  have hx := lit2_below v4 [1, 2, 2] [1, 1, 1] 3 3 (e := 24)
  have HT7 := Lib.hid ht
  have HL8 := Lib.hid hx
  clear ht hx
  have HB9 := Lib.hid (bl3 HB5.out HL8.out)
  clear HB5
  go_wp2_with fail
  refine (HE1.out _ _ HT7.out).mono ?_
  rintro e v10 ⟨⟨Aa, ca, Ba, da, rfl, t1, t2⟩, hb⟩
  have HB11 := Lib.hid (bl3 HB9.out hb)
  have HF12 := Lib.hid (kept_tab.below HT7.out hb)
  clear HT7
  clear HB9
  have HF13 := Lib.hid t1
  clear t1
  have HF14 := Lib.hid t2
  clear t2
  clear hb
  clear HF12
  have HN15 : Hid ((v10.alloc (.cells #[.int .i64 1, .slice Aa 1 ca] 27)).heap[v10.heap.size]? = some (.cells #[.int .i64 1, .slice Aa 1 ca] 27 (0, 0))) := Lib.hid (heap_alloc_new _ _)
  have HL16 : Hid (Below v10.heap.size v10 (v10.alloc (.cells #[.int .i64 1, .slice Aa 1 ca] 27))) := Lib.hid ((Below.refl _ _).alloc (Nat.le_refl _) _)
  have HB17 := Lib.hid (bl3 HB11.out HL16.out)
  have HF18 := Lib.hid (kept_tab.below HF13.out HL16.out)
  clear HF13
  have HF19 := Lib.hid (kept_tab.below HF14.out HL16.out)
  clear HF14
  clear HB11
  clear HL16
  obtain ⟨d20, d21⟩ := cell_of2 HN15.out
  have ht := lit1 (v10.alloc (.cells #[.int .i64 1, .slice Aa 1 ca] 27)) [1, 1, 1, 1, 1, 1] (fits_lit (by decide)) rfl (by decide) (e := 24)
  have hx := lit1_below (v10.alloc (.cells #[.int .i64 1, .slice Aa 1 ca] 27)) [1, 1, 1, 1, 1, 1] 6 (e := 24)
  simp only [World.size_alloc] at ht hx
  replace hx := below_sz hx
  have HT22 := Lib.hid ht
  have HL23 := Lib.hid hx
  clear ht hx
  have HB24 := Lib.hid (bl3 HB17.out HL23.out)
  have HF25 := Lib.hid (kept_tab.below HF18.out HL23.out)
  clear HF18
  have HF26 := Lib.hid (kept_tab.below HF19.out HL23.out)
  clear HF19
  have HF27 := Lib.hid ((HL23.out.block _ (Array.getElem?_eq_some_iff.1 HN15.out).1).trans HN15.out)
  clear HN15
  clear HB17
  go_wp2_with fail
  clear d20 d21
  refine (sameK HF25.out HT22.out).mono ?_
  rintro e v28 ⟨rfl, hb⟩
  have HB29 := Lib.hid (bl3 HB24.out hb)
  have HF30 := Lib.hid (kept_tab.below HF25.out hb)
  clear HF25
  have HF31 := Lib.hid (kept_tab.below HF26.out hb)
  clear HF26
  have HF32 := Lib.hid ((hb.block _ (Array.getElem?_eq_some_iff.1 HF27.out).1).trans HF27.out)
  clear HF27
  have HF33 := Lib.hid (kept_tab.below HT22.out hb)
  clear HT22
  clear HB24
  clear hb
  clear HF33
  clear HF30
  clear HF32
  have ht := lit2 v28 [-1, -1] [1] (fits_lit (by decide)) (fits_lit (by decide)) rfl rfl (by decide) (e := 24)
  have hx := lit2_below v28 [-1, -1] [1] 2 1 (e := 24)
  have HT34 := Lib.hid ht
  have HL35 := Lib.hid hx
  clear ht hx
  have HB36 := Lib.hid (bl3 HB29.out HL35.out)
  have HF37 := Lib.hid (kept_tab.below HF31.out HL35.out)
  clear HF31
  clear HB29
  go_wp2_with fail
  refine (equalK HF37.out HT34.out).mono ?_
  rintro e v38 ⟨rfl, hb⟩
  have HB39 := Lib.hid (bl3 HB36.out hb)
  have HF40 := Lib.hid (kept_tab.below HF37.out hb)
  clear HF37
  have HF41 := Lib.hid (kept_tab.below HT34.out hb)
  clear HT34
  clear HB36
  clear hb
  clear HF41
  clear HF40
  have ht := lit1 v38 [1, 2, 2] (fits_lit (by decide)) rfl (by decide) (e := 24)
  have hx := lit1_below v38 [1, 2, 2] 3 (e := 24)
  have HT42 := Lib.hid ht
  have HL43 := Lib.hid hx
  clear ht hx
  have HB44 := Lib.hid (bl3 HB39.out HL43.out)
  clear HB39
  go_wp2_with fail
  refine (HE2.out _ _ HT42.out).mono ?_
  rintro e v45 ⟨rfl, hb⟩
  have HB46 := Lib.hid (bl3 HB44.out hb)
  have HF47 := Lib.hid (kept_tab.below HT42.out hb)
  clear HT42
  clear HB44
  clear hb
  clear HF47
  have HN48 : Hid ((v45.alloc (.cells #[.int .i64 0, .slice none 0 0] 27)).heap[v45.heap.size]? = some (.cells #[.int .i64 0, .slice none 0 0] 27 (0, 0))) := Lib.hid (heap_alloc_new _ _)
  have HL49 : Hid (Below v45.heap.size v45 (v45.alloc (.cells #[.int .i64 0, .slice none 0 0] 27))) := Lib.hid ((Below.refl _ _).alloc (Nat.le_refl _) _)
  have HB50 := Lib.hid (bl3 HB46.out HL49.out)
  clear HB46
  clear HL49
  clear HN48
  have ht := lit1 (v45.alloc (.cells #[.int .i64 0, .slice none 0 0] 27)) [1] (fits_lit (by decide)) rfl (by decide) (e := 24)
  have hx := lit1_below (v45.alloc (.cells #[.int .i64 0, .slice none 0 0] 27)) [1] 1 (e := 24)
  simp only [World.size_alloc] at ht hx
  replace hx := below_sz hx
  have HT51 := Lib.hid ht
  have HL52 := Lib.hid hx
  clear ht hx
  have HB53 := Lib.hid (bl3 HB50.out HL52.out)
  clear HB50
  go_wp2_with fail
  refine (HE3.out _ _ HT51.out).mono ?_
  rintro e v54 ⟨rfl, hb⟩
  have HB55 := Lib.hid (bl3 HB53.out hb)
  have HF56 := Lib.hid (kept_tab.below HT51.out hb)
  clear HT51
  clear HB53
  clear hb
  clear HF56
  have HN57 : Hid ((v54.alloc (.cells #[.int .i64 0, .slice none 0 0] 27)).heap[v54.heap.size]? = some (.cells #[.int .i64 0, .slice none 0 0] 27 (0, 0))) := Lib.hid (heap_alloc_new _ _)
  have HL58 : Hid (Below v54.heap.size v54 (v54.alloc (.cells #[.int .i64 0, .slice none 0 0] 27))) := Lib.hid ((Below.refl _ _).alloc (Nat.le_refl _) _)
  have HB59 := Lib.hid (bl3 HB55.out HL58.out)
  clear HB55
  clear HL58
  clear HN57
  have ht := lit1 (v54.alloc (.cells #[.int .i64 0, .slice none 0 0] 27)) [1, 2, 2] (fits_lit (by decide)) rfl (by decide) (e := 24)
  have hx := lit1_below (v54.alloc (.cells #[.int .i64 0, .slice none 0 0] 27)) [1, 2, 2] 3 (e := 24)
  simp only [World.size_alloc] at ht hx
  replace hx := below_sz hx
  have HT60 := Lib.hid ht
  have HL61 := Lib.hid hx
  clear ht hx
  have HB62 := Lib.hid (bl3 HB59.out HL61.out)
  clear HB59
  go_wp2_with fail
  refine (HE4.out _ _ HT60.out).mono ?_
  rintro e v63 ⟨rfl, hb⟩
  have HB64 := Lib.hid (bl3 HB62.out hb)
  have HF65 := Lib.hid (kept_tab.below HT60.out hb)
  clear HT60
  clear HB62
  clear hb
  clear HF65
  have HN66 : Hid ((v63.alloc (.cells #[.int .i64 0, .slice none 0 0] 27)).heap[v63.heap.size]? = some (.cells #[.int .i64 0, .slice none 0 0] 27 (0, 0))) := Lib.hid (heap_alloc_new _ _)
  have HL67 : Hid (Below v63.heap.size v63 (v63.alloc (.cells #[.int .i64 0, .slice none 0 0] 27))) := Lib.hid ((Below.refl _ _).alloc (Nat.le_refl _) _)
  have HB68 := Lib.hid (bl3 HB64.out HL67.out)
  clear HB64
  clear HL67
  clear HN66
  have ht := lit2 (v63.alloc (.cells #[.int .i64 0, .slice none 0 0] 27)) [1, 1, 1] [1, 1, 2] (fits_lit (by decide)) (fits_lit (by decide)) rfl rfl (by decide) (e := 24)
  have hx := lit2_below (v63.alloc (.cells #[.int .i64 0, .slice none 0 0] 27)) [1, 1, 1] [1, 1, 2] 3 3 (e := 24)
  simp only [World.size_alloc] at ht hx
  replace hx := below_sz hx
  have HT69 := Lib.hid ht
  have HL70 := Lib.hid hx
  clear ht hx
  have HB71 := Lib.hid (bl3 HB68.out HL70.out)
  clear HB68
  go_wp2_with fail
  refine (HS1.out _ _ HT69.out).mono ?_
  rintro e v72 ⟨⟨Ab, cb, rfl, t1⟩, hb⟩
  have HB73 := Lib.hid (bl3 HB71.out hb)
  have HF74 := Lib.hid (kept_tab.below HT69.out hb)
  clear HT69
  clear HB71
  have HF75 := Lib.hid t1
  clear t1
  clear hb
  clear HF74
  have HN76 : Hid ((v72.alloc (.cells #[.int .i64 2, .slice Ab 2 cb] 27)).heap[v72.heap.size]? = some (.cells #[.int .i64 2, .slice Ab 2 cb] 27 (0, 0))) := Lib.hid (heap_alloc_new _ _)
  have HL77 : Hid (Below v72.heap.size v72 (v72.alloc (.cells #[.int .i64 2, .slice Ab 2 cb] 27))) := Lib.hid ((Below.refl _ _).alloc (Nat.le_refl _) _)
  have HB78 := Lib.hid (bl3 HB73.out HL77.out)
  have HF79 := Lib.hid (kept_tab.below HF75.out HL77.out)
  clear HF75
  clear HB73
  clear HL77
  have ht := lit1 (v72.alloc (.cells #[.int .i64 2, .slice Ab 2 cb] 27)) [1, 1] (fits_lit (by decide)) rfl (by decide) (e := 24)
  have hx := lit1_below (v72.alloc (.cells #[.int .i64 2, .slice Ab 2 cb] 27)) [1, 1] 2 (e := 24)
  simp only [World.size_alloc] at ht hx
  replace hx := below_sz hx
  have HT80 := Lib.hid ht
  have HL81 := Lib.hid hx
  clear ht hx
  have HB82 := Lib.hid (bl3 HB78.out HL81.out)
  have HF83 := Lib.hid (kept_tab.below HF79.out HL81.out)
  clear HF79
  have HF84 := Lib.hid ((HL81.out.block _ (Array.getElem?_eq_some_iff.1 HN76.out).1).trans HN76.out)
  clear HN76
  clear HB78
  go_wp2_with fail
  refine (HS2.out _ _ HT80.out).mono ?_
  rintro e v85 ⟨⟨Ak, ck, rfl, t1⟩, hb⟩
  have HB86 := Lib.hid (bl3 HB82.out hb)
  have HF87 := Lib.hid (kept_tab.below HF83.out hb)
  clear HF83
  have HF88 := Lib.hid ((hb.block _ (Array.getElem?_eq_some_iff.1 HF84.out).1).trans HF84.out)
  clear HF84
  have HF89 := Lib.hid (kept_tab.below HT80.out hb)
  clear HT80
  clear HB82
  have HF90 := Lib.hid t1
  clear t1
  clear hb
  clear HF89
  have HN91 : Hid ((v85.alloc (.cells #[.int .i64 1, .slice Ak 1 ck] 27)).heap[v85.heap.size]? = some (.cells #[.int .i64 1, .slice Ak 1 ck] 27 (0, 0))) := Lib.hid (heap_alloc_new _ _)
  have HL92 : Hid (Below v85.heap.size v85 (v85.alloc (.cells #[.int .i64 1, .slice Ak 1 ck] 27))) := Lib.hid ((Below.refl _ _).alloc (Nat.le_refl _) _)
  have HB93 := Lib.hid (bl3 HB86.out HL92.out)
  have HF94 := Lib.hid (kept_tab.below HF87.out HL92.out)
  clear HF87
  have HF95 := Lib.hid ((HL92.out.block _ (Array.getElem?_eq_some_iff.1 HF88.out).1).trans HF88.out)
  clear HF88
  have HF96 := Lib.hid (kept_tab.below HF90.out HL92.out)
  clear HF90
  clear HB86
  clear HL92
  obtain ⟨d97, d98⟩ := cell_of2 HF95.out
  have ht := lit2 (v85.alloc (.cells #[.int .i64 1, .slice Ak 1 ck] 27)) [1, -2] [1, 1, 1] (fits_lit (by decide)) (fits_lit (by decide)) rfl rfl (by decide) (e := 24)
  have hx := lit2_below (v85.alloc (.cells #[.int .i64 1, .slice Ak 1 ck] 27)) [1, -2] [1, 1, 1] 2 3 (e := 24)
  simp only [World.size_alloc] at ht hx
  replace hx := below_sz hx
  have HT99 := Lib.hid ht
  have HL100 := Lib.hid hx
  clear ht hx
  have HB101 := Lib.hid (bl3 HB93.out HL100.out)
  have HF102 := Lib.hid (kept_tab.below HF94.out HL100.out)
  clear HF94
  have HF103 := Lib.hid ((HL100.out.block _ (Array.getElem?_eq_some_iff.1 HF95.out).1).trans HF95.out)
  clear HF95
  have HF104 := Lib.hid (kept_tab.below HF96.out HL100.out)
  clear HF96
  have HF105 := Lib.hid ((HL100.out.block _ (Array.getElem?_eq_some_iff.1 HN91.out).1).trans HN91.out)
  clear HN91
  clear HB93
  go_wp2_with fail
  clear d97 d98
  refine (sameK HF102.out HT99.out).mono ?_
  rintro e v106 ⟨rfl, hb⟩
  have HB107 := Lib.hid (bl3 HB101.out hb)
  have HF108 := Lib.hid (kept_tab.below HF102.out hb)
  clear HF102
  have HF109 := Lib.hid ((hb.block _ (Array.getElem?_eq_some_iff.1 HF103.out).1).trans HF103.out)
  clear HF103
  have HF110 := Lib.hid (kept_tab.below HF104.out hb)
  clear HF104
  have HF111 := Lib.hid ((hb.block _ (Array.getElem?_eq_some_iff.1 HF105.out).1).trans HF105.out)
  clear HF105
  have HF112 := Lib.hid (kept_tab.below HT99.out hb)
  clear HT99
  clear HB101
  clear hb
  clear HF112
  clear HF108
  clear HF109
  obtain ⟨d113, d114⟩ := cell_of2 HF111.out
  have ht := lit1 v106 [1, 1] (fits_lit (by decide)) rfl (by decide) (e := 24)
  have hx := lit1_below v106 [1, 1] 2 (e := 24)
  have HT115 := Lib.hid ht
  have HL116 := Lib.hid hx
  clear ht hx
  have HB117 := Lib.hid (bl3 HB107.out HL116.out)
  have HF118 := Lib.hid (kept_tab.below HF110.out HL116.out)
  clear HF110
  have HF119 := Lib.hid ((HL116.out.block _ (Array.getElem?_eq_some_iff.1 HF111.out).1).trans HF111.out)
  clear HF111
  clear HB107
  go_wp2_with fail
  clear d113 d114
  refine (sameK HF118.out HT115.out).mono ?_
  rintro e v120 ⟨rfl, hb⟩
  have HB121 := Lib.hid (bl3 HB117.out hb)
  have HF122 := Lib.hid (kept_tab.below HF118.out hb)
  clear HF118
  have HF123 := Lib.hid ((hb.block _ (Array.getElem?_eq_some_iff.1 HF119.out).1).trans HF119.out)
  clear HF119
  have HF124 := Lib.hid (kept_tab.below HT115.out hb)
  clear HT115
  clear HB117
  clear hb
  clear HF124
  clear HF122
  clear HF123
  have ht := lit2 v120 [1, 2] [1, 1, 1] (fits_lit (by decide)) (fits_lit (by decide)) rfl rfl (by decide) (e := 24)
  have hx := lit2_below v120 [1, 2] [1, 1, 1] 2 3 (e := 24)
  have HT125 := Lib.hid ht
  have HL126 := Lib.hid hx
  clear ht hx
  have HB127 := Lib.hid (bl3 HB121.out HL126.out)
  clear HB121
  have HN128 : Hid ((((((v120.alloc (.cells (ints [1, 2]).toArray 3)).alloc (.cells (ints [1, 1, 1]).toArray 3)).alloc (.cells #[.slice (some ⟨v120.heap.size, 0, none⟩) 2 2, .slice (some ⟨v120.heap.size + 1, 0, none⟩) 3 3] 24))).alloc (.cells #[.int .i64 2, .slice (some ⟨v120.heap.size + 1 + 1, 0, none⟩) 2 2] 27)).heap[(v120.heap.size + 1 + 1 + 1)]? = some (.cells #[.int .i64 2, .slice (some ⟨v120.heap.size + 1 + 1, 0, none⟩) 2 2] 27 (0, 0))) := Lib.hid (by have h := heap_alloc_new ((((v120.alloc (.cells (ints [1, 2]).toArray 3)).alloc (.cells (ints [1, 1, 1]).toArray 3)).alloc (.cells #[.slice (some ⟨v120.heap.size, 0, none⟩) 2 2, .slice (some ⟨v120.heap.size + 1, 0, none⟩) 3 3] 24))) (.cells #[.int .i64 2, .slice (some ⟨v120.heap.size + 1 + 1, 0, none⟩) 2 2] 27); simp only [World.size_alloc] at h; exact h)
  have HL129 : Hid (Below ((((v120.alloc (.cells (ints [1, 2]).toArray 3)).alloc (.cells (ints [1, 1, 1]).toArray 3)).alloc (.cells #[.slice (some ⟨v120.heap.size, 0, none⟩) 2 2, .slice (some ⟨v120.heap.size + 1, 0, none⟩) 3 3] 24))).heap.size ((((v120.alloc (.cells (ints [1, 2]).toArray 3)).alloc (.cells (ints [1, 1, 1]).toArray 3)).alloc (.cells #[.slice (some ⟨v120.heap.size, 0, none⟩) 2 2, .slice (some ⟨v120.heap.size + 1, 0, none⟩) 3 3] 24))) (((((v120.alloc (.cells (ints [1, 2]).toArray 3)).alloc (.cells (ints [1, 1, 1]).toArray 3)).alloc (.cells #[.slice (some ⟨v120.heap.size, 0, none⟩) 2 2, .slice (some ⟨v120.heap.size + 1, 0, none⟩) 3 3] 24))).alloc (.cells #[.int .i64 2, .slice (some ⟨v120.heap.size + 1 + 1, 0, none⟩) 2 2] 27))) := Lib.hid ((Below.refl _ _).alloc (Nat.le_refl _) _)
  have HB130 := Lib.hid (bl3 HB127.out HL129.out)
  have HF131 := Lib.hid (kept_tab.below HT125.out HL129.out)
  clear HT125
  clear HB127
  clear HL129
  obtain ⟨d132, d133⟩ := cell_of2 HN128.out
  go_wp2_with fail
  clear d132 d133
  refine (HM1.out _ _ HF131.out).mono ?_
  rintro e v134 ⟨⟨Am, cm, Bm, dm, Dm, fm, rfl, t1, t2, t3⟩, hb⟩
  have HB135 := Lib.hid (bl3 HB130.out hb)
  have HF136 := Lib.hid (kept_tab.below HF131.out hb)
  clear HF131
  have HF137 := Lib.hid ((hb.block _ (Array.getElem?_eq_some_iff.1 HN128.out).1).trans HN128.out)
  clear HN128
  clear HB130
  have HF138 := Lib.hid t1
  clear t1
  have HF139 := Lib.hid t2
  clear t2
  have HF140 := Lib.hid t3
  clear t3
  clear hb
  have HN141 : Hid ((v134.alloc (.cells #[.int .i64 2, .slice Am 2 cm] 27)).heap[v134.heap.size]? = some (.cells #[.int .i64 2, .slice Am 2 cm] 27 (0, 0))) := Lib.hid (heap_alloc_new _ _)
  have HL142 : Hid (Below v134.heap.size v134 (v134.alloc (.cells #[.int .i64 2, .slice Am 2 cm] 27))) := Lib.hid ((Below.refl _ _).alloc (Nat.le_refl _) _)
  have HB143 := Lib.hid (bl3 HB135.out HL142.out)
  have HF144 := Lib.hid (kept_tab.below HF136.out HL142.out)
  clear HF136
  have HF145 := Lib.hid ((HL142.out.block _ (Array.getElem?_eq_some_iff.1 HF137.out).1).trans HF137.out)
  clear HF137
  have HF146 := Lib.hid (kept_tab.below HF138.out HL142.out)
  clear HF138
  have HF147 := Lib.hid (kept_tab.below HF139.out HL142.out)
  clear HF139
  have HF148 := Lib.hid (IntsAt.below HF140.out HL142.out)
  clear HF140
  clear HB135
  clear HL142
  obtain ⟨d149, d150⟩ := cell_of2 HF145.out
  go_wp2_with fail
  clear d149 d150
  refine (HM2.out _ _ HF144.out).mono ?_
  rintro e v151 ⟨⟨An, cn, Bn, dn, Dn, fn, rfl, t1, t2, t3⟩, hb⟩
  have HB152 := Lib.hid (bl3 HB143.out hb)
  have HF153 := Lib.hid (kept_tab.below HF144.out hb)
  clear HF144
  have HF154 := Lib.hid ((hb.block _ (Array.getElem?_eq_some_iff.1 HF145.out).1).trans HF145.out)
  clear HF145
  have HF155 := Lib.hid (kept_tab.below HF146.out hb)
  clear HF146
  have HF156 := Lib.hid (kept_tab.below HF147.out hb)
  clear HF147
  have HF157 := Lib.hid (IntsAt.below HF148.out hb)
  clear HF148
  have HF158 := Lib.hid ((hb.block _ (Array.getElem?_eq_some_iff.1 HN141.out).1).trans HN141.out)
  clear HN141
  clear HB143
  have HF159 := Lib.hid t1
  clear t1
  have HF160 := Lib.hid t2
  clear t2
  have HF161 := Lib.hid t3
  clear t3
  clear hb
  have HN162 : Hid ((v151.alloc (.cells #[.int .i64 1, .slice An 1 cn] 27)).heap[v151.heap.size]? = some (.cells #[.int .i64 1, .slice An 1 cn] 27 (0, 0))) := Lib.hid (heap_alloc_new _ _)
  have HL163 : Hid (Below v151.heap.size v151 (v151.alloc (.cells #[.int .i64 1, .slice An 1 cn] 27))) := Lib.hid ((Below.refl _ _).alloc (Nat.le_refl _) _)
  have HB164 := Lib.hid (bl3 HB152.out HL163.out)
  have HF165 := Lib.hid (kept_tab.below HF153.out HL163.out)
  clear HF153
  have HF166 := Lib.hid ((HL163.out.block _ (Array.getElem?_eq_some_iff.1 HF154.out).1).trans HF154.out)
  clear HF154
  have HF167 := Lib.hid (kept_tab.below HF155.out HL163.out)
  clear HF155
  have HF168 := Lib.hid (kept_tab.below HF156.out HL163.out)
  clear HF156
  have HF169 := Lib.hid (IntsAt.below HF157.out HL163.out)
  clear HF157
  have HF170 := Lib.hid ((HL163.out.block _ (Array.getElem?_eq_some_iff.1 HF158.out).1).trans HF158.out)
  clear HF158
  have HF171 := Lib.hid (kept_tab.below HF159.out HL163.out)
  clear HF159
  have HF172 := Lib.hid (kept_tab.below HF160.out HL163.out)
  clear HF160
  have HF173 := Lib.hid (IntsAt.below HF161.out HL163.out)
  clear HF161
  clear HB152
  clear HL163
  have ht := lit1 (v151.alloc (.cells #[.int .i64 1, .slice An 1 cn] 27)) [1] (fits_lit (by decide)) rfl (by decide) (e := 24)
  have hx := lit1_below (v151.alloc (.cells #[.int .i64 1, .slice An 1 cn] 27)) [1] 1 (e := 24)
  simp only [World.size_alloc] at ht hx
  replace hx := below_sz hx
  have HT174 := Lib.hid ht
  have HL175 := Lib.hid hx
  clear ht hx
  have HB176 := Lib.hid (bl3 HB164.out HL175.out)
  have HF177 := Lib.hid (kept_tab.below HF165.out HL175.out)
  clear HF165
  have HF178 := Lib.hid ((HL175.out.block _ (Array.getElem?_eq_some_iff.1 HF166.out).1).trans HF166.out)
  clear HF166
  have HF179 := Lib.hid (kept_tab.below HF167.out HL175.out)
  clear HF167
  have HF180 := Lib.hid (kept_tab.below HF168.out HL175.out)
  clear HF168
  have HF181 := Lib.hid (IntsAt.below HF169.out HL175.out)
  clear HF169
  have HF182 := Lib.hid ((HL175.out.block _ (Array.getElem?_eq_some_iff.1 HF170.out).1).trans HF170.out)
  clear HF170
  have HF183 := Lib.hid (kept_tab.below HF171.out HL175.out)
  clear HF171
  have HF184 := Lib.hid (kept_tab.below HF172.out HL175.out)
  clear HF172
  have HF185 := Lib.hid (IntsAt.below HF173.out HL175.out)
  clear HF173
  have HF186 := Lib.hid ((HL175.out.block _ (Array.getElem?_eq_some_iff.1 HN162.out).1).trans HN162.out)
  clear HN162
  clear HB164
  go_wp2_with fail
  refine (HM3.out _ _ HT174.out).mono ?_
  rintro e v187 ⟨rfl, hb⟩
  have HB188 := Lib.hid (bl3 HB176.out hb)
  have HF189 := Lib.hid (kept_tab.below HF177.out hb)
  clear HF177
  have HF190 := Lib.hid ((hb.block _ (Array.getElem?_eq_some_iff.1 HF178.out).1).trans HF178.out)
  clear HF178
  have HF191 := Lib.hid (kept_tab.below HF179.out hb)
  clear HF179
  have HF192 := Lib.hid (kept_tab.below HF180.out hb)
  clear HF180
  have HF193 := Lib.hid (IntsAt.below HF181.out hb)
  clear HF181
  have HF194 := Lib.hid ((hb.block _ (Array.getElem?_eq_some_iff.1 HF182.out).1).trans HF182.out)
  clear HF182
  have HF195 := Lib.hid (kept_tab.below HF183.out hb)
  clear HF183
  have HF196 := Lib.hid (kept_tab.below HF184.out hb)
  clear HF184
  have HF197 := Lib.hid (IntsAt.below HF185.out hb)
  clear HF185
  have HF198 := Lib.hid ((hb.block _ (Array.getElem?_eq_some_iff.1 HF186.out).1).trans HF186.out)
  clear HF186
  have HF199 := Lib.hid (kept_tab.below HT174.out hb)
  clear HT174
  clear HB176
  clear hb
  clear HF199
  have HN200 : Hid ((v187.alloc (.cells #[.int .i64 0, .slice none 0 0] 27)).heap[v187.heap.size]? = some (.cells #[.int .i64 0, .slice none 0 0] 27 (0, 0))) := Lib.hid (heap_alloc_new _ _)
  have HL201 : Hid (Below v187.heap.size v187 (v187.alloc (.cells #[.int .i64 0, .slice none 0 0] 27))) := Lib.hid ((Below.refl _ _).alloc (Nat.le_refl _) _)
  have HB202 := Lib.hid (bl3 HB188.out HL201.out)
  have HF203 := Lib.hid (kept_tab.below HF189.out HL201.out)
  clear HF189
  have HF204 := Lib.hid ((HL201.out.block _ (Array.getElem?_eq_some_iff.1 HF190.out).1).trans HF190.out)
  clear HF190
  have HF205 := Lib.hid (kept_tab.below HF191.out HL201.out)
  clear HF191
  have HF206 := Lib.hid (kept_tab.below HF192.out HL201.out)
  clear HF192
  have HF207 := Lib.hid (IntsAt.below HF193.out HL201.out)
  clear HF193
  have HF208 := Lib.hid ((HL201.out.block _ (Array.getElem?_eq_some_iff.1 HF194.out).1).trans HF194.out)
  clear HF194
  have HF209 := Lib.hid (kept_tab.below HF195.out HL201.out)
  clear HF195
  have HF210 := Lib.hid (kept_tab.below HF196.out HL201.out)
  clear HF196
  have HF211 := Lib.hid (IntsAt.below HF197.out HL201.out)
  clear HF197
  have HF212 := Lib.hid ((HL201.out.block _ (Array.getElem?_eq_some_iff.1 HF198.out).1).trans HF198.out)
  clear HF198
  clear HB188
  clear HL201
  clear HN200
  obtain ⟨d213, d214⟩ := cell_of2 HF208.out
  obtain ⟨d215, d216⟩ := cell_of2 HF204.out
  go_wp2_with fail
  clear d213 d214 d215 d216
  refine (sameK HF205.out HF203.out).mono ?_
  rintro e v217 ⟨rfl, hb⟩
  have HB218 := Lib.hid (bl3 HB202.out hb)
  have HF219 := Lib.hid (kept_tab.below HF203.out hb)
  clear HF203
  have HF220 := Lib.hid ((hb.block _ (Array.getElem?_eq_some_iff.1 HF204.out).1).trans HF204.out)
  clear HF204
  have HF221 := Lib.hid (kept_tab.below HF205.out hb)
  clear HF205
  have HF222 := Lib.hid (kept_tab.below HF206.out hb)
  clear HF206
  have HF223 := Lib.hid (IntsAt.below HF207.out hb)
  clear HF207
  have HF224 := Lib.hid ((hb.block _ (Array.getElem?_eq_some_iff.1 HF208.out).1).trans HF208.out)
  clear HF208
  have HF225 := Lib.hid (kept_tab.below HF209.out hb)
  clear HF209
  have HF226 := Lib.hid (kept_tab.below HF210.out hb)
  clear HF210
  have HF227 := Lib.hid (IntsAt.below HF211.out hb)
  clear HF211
  have HF228 := Lib.hid ((hb.block _ (Array.getElem?_eq_some_iff.1 HF212.out).1).trans HF212.out)
  clear HF212
  clear HB202
  clear hb
  clear HF221
  clear HF219
  clear HF220
  clear HF224
  have ht := lit2 v217 [1] [2] (fits_lit (by decide)) (fits_lit (by decide)) rfl rfl (by decide) (e := 24)
  have hx := lit2_below v217 [1] [2] 1 1 (e := 24)
  have HT229 := Lib.hid ht
  have HL230 := Lib.hid hx
  clear ht hx
  have HB231 := Lib.hid (bl3 HB218.out HL230.out)
  have HF232 := Lib.hid (kept_tab.below HF222.out HL230.out)
  clear HF222
  have HF233 := Lib.hid (IntsAt.below HF223.out HL230.out)
  clear HF223
  have HF234 := Lib.hid (kept_tab.below HF225.out HL230.out)
  clear HF225
  have HF235 := Lib.hid (kept_tab.below HF226.out HL230.out)
  clear HF226
  have HF236 := Lib.hid (IntsAt.below HF227.out HL230.out)
  clear HF227
  have HF237 := Lib.hid ((HL230.out.block _ (Array.getElem?_eq_some_iff.1 HF228.out).1).trans HF228.out)
  clear HF228
  clear HB218
  go_wp2_with fail
  refine (equalK HF232.out HT229.out).mono ?_
  rintro e v238 ⟨rfl, hb⟩
  have HB239 := Lib.hid (bl3 HB231.out hb)
  have HF240 := Lib.hid (kept_tab.below HF232.out hb)
  clear HF232
  have HF241 := Lib.hid (IntsAt.below HF233.out hb)
  clear HF233
  have HF242 := Lib.hid (kept_tab.below HF234.out hb)
  clear HF234
  have HF243 := Lib.hid (kept_tab.below HF235.out hb)
  clear HF235
  have HF244 := Lib.hid (IntsAt.below HF236.out hb)
  clear HF236
  have HF245 := Lib.hid ((hb.block _ (Array.getElem?_eq_some_iff.1 HF237.out).1).trans HF237.out)
  clear HF237
  have HF246 := Lib.hid (kept_tab.below HT229.out hb)
  clear HT229
  clear HB231
  clear hb
  clear HF246
  clear HF240
  have HT247 := Lib.hid (ints_lit v238 [1, 2] (fits_lit (by decide)) 2 rfl (by decide))
  have HL248 : Hid (Below v238.heap.size v238 (v238.alloc (.cells (ints [1, 2]).toArray 3))) := Lib.hid ((Below.refl _ _).alloc (Nat.le_refl _) _)
  have HB249 := Lib.hid (bl3 HB239.out HL248.out)
  have HF250 := Lib.hid (IntsAt.below HF241.out HL248.out)
  clear HF241
  have HF251 := Lib.hid (kept_tab.below HF242.out HL248.out)
  clear HF242
  have HF252 := Lib.hid (kept_tab.below HF243.out HL248.out)
  clear HF243
  have HF253 := Lib.hid (IntsAt.below HF244.out HL248.out)
  clear HF244
  have HF254 := Lib.hid ((HL248.out.block _ (Array.getElem?_eq_some_iff.1 HF245.out).1).trans HF245.out)
  clear HF245
  clear HB239
  go_wp2_with fail
  refine (numbersK HF250.out HT247.out).mono ?_
  rintro e v255 ⟨rfl, hb⟩
  have HB256 := Lib.hid (bl3 HB249.out hb)
  have HF257 := Lib.hid (IntsAt.below HF250.out hb)
  clear HF250
  have HF258 := Lib.hid (kept_tab.below HF251.out hb)
  clear HF251
  have HF259 := Lib.hid (kept_tab.below HF252.out hb)
  clear HF252
  have HF260 := Lib.hid (IntsAt.below HF253.out hb)
  clear HF253
  have HF261 := Lib.hid ((hb.block _ (Array.getElem?_eq_some_iff.1 HF254.out).1).trans HF254.out)
  clear HF254
  have HF262 := Lib.hid (IntsAt.below HT247.out hb)
  clear HT247
  clear HB249
  clear hb
  clear HF262
  clear HF257
  obtain ⟨d263, d264⟩ := cell_of2 HF261.out
  have ht := lit1 v255 [1, 1, 1] (fits_lit (by decide)) rfl (by decide) (e := 24)
  have hx := lit1_below v255 [1, 1, 1] 3 (e := 24)
  have HT265 := Lib.hid ht
  have HL266 := Lib.hid hx
  clear ht hx
  have HB267 := Lib.hid (bl3 HB256.out HL266.out)
  have HF268 := Lib.hid (kept_tab.below HF258.out HL266.out)
  clear HF258
  have HF269 := Lib.hid (kept_tab.below HF259.out HL266.out)
  clear HF259
  have HF270 := Lib.hid (IntsAt.below HF260.out HL266.out)
  clear HF260
  have HF271 := Lib.hid ((HL266.out.block _ (Array.getElem?_eq_some_iff.1 HF261.out).1).trans HF261.out)
  clear HF261
  clear HB256
  go_wp2_with fail
  clear d263 d264
  refine (sameK HF268.out HT265.out).mono ?_
  rintro e v272 ⟨rfl, hb⟩
  have HB273 := Lib.hid (bl3 HB267.out hb)
  have HF274 := Lib.hid (kept_tab.below HF268.out hb)
  clear HF268
  have HF275 := Lib.hid (kept_tab.below HF269.out hb)
  clear HF269
  have HF276 := Lib.hid (IntsAt.below HF270.out hb)
  clear HF270
  have HF277 := Lib.hid ((hb.block _ (Array.getElem?_eq_some_iff.1 HF271.out).1).trans HF271.out)
  clear HF271
  have HF278 := Lib.hid (kept_tab.below HT265.out hb)
  clear HT265
  clear HB267
  clear hb
  clear HF278
  clear HF274
  clear HF277
  have ht := lit2 v272 [1] [-1] (fits_lit (by decide)) (fits_lit (by decide)) rfl rfl (by decide) (e := 24)
  have hx := lit2_below v272 [1] [-1] 1 1 (e := 24)
  have HT279 := Lib.hid ht
  have HL280 := Lib.hid hx
  clear ht hx
  have HB281 := Lib.hid (bl3 HB273.out HL280.out)
  have HF282 := Lib.hid (kept_tab.below HF275.out HL280.out)
  clear HF275
  have HF283 := Lib.hid (IntsAt.below HF276.out HL280.out)
  clear HF276
  clear HB273
  go_wp2_with fail
  refine (equalK HF282.out HT279.out).mono ?_
  rintro e v284 ⟨rfl, hb⟩
  have HB285 := Lib.hid (bl3 HB281.out hb)
  have HF286 := Lib.hid (kept_tab.below HF282.out hb)
  clear HF282
  have HF287 := Lib.hid (IntsAt.below HF283.out hb)
  clear HF283
  have HF288 := Lib.hid (kept_tab.below HT279.out hb)
  clear HT279
  clear HB281
  clear hb
  clear HF288
  clear HF286
  have HT289 := Lib.hid (ints_lit v284 [1] (fits_lit (by decide)) 1 rfl (by decide))
  have HL290 : Hid (Below v284.heap.size v284 (v284.alloc (.cells (ints [1]).toArray 3))) := Lib.hid ((Below.refl _ _).alloc (Nat.le_refl _) _)
  have HB291 := Lib.hid (bl3 HB285.out HL290.out)
  have HF292 := Lib.hid (IntsAt.below HF287.out HL290.out)
  clear HF287
  clear HB285
  go_wp2_with fail
  refine (numbersK HF292.out HT289.out).mono ?_
  rintro e v293 ⟨rfl, hb⟩
  have HB294 := Lib.hid (bl3 HB291.out hb)
  have HF295 := Lib.hid (IntsAt.below HF292.out hb)
  clear HF292
  have HF296 := Lib.hid (IntsAt.below HT289.out hb)
  clear HT289
  clear HB291
  clear hb
  clear HF296
  clear HF295
  go_wp2_with fail
  refine (awake12_any _).mono ?_
  rintro e v297 ⟨rfl, hb⟩
  have HB298 := Lib.hid (bl3 HB294.out hb)
  clear HB294
  clear hb
  go_wp2_with fail
  go_ret
  exact ⟨rfl, HB298.out⟩
end Go.Proofs
