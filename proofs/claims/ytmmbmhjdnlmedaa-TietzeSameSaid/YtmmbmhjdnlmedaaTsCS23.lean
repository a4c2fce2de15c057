/- The walk of TietzeKnown; The walk of TietzeSame; The words of a law, whose rows are the call's own (printed by genSh.py out of L8 and L9); The law's words, whose rows are the call's own; TietzeSame: the list of permutations as it grows beside the presentation; TietzeSame: operations of the region that joins a definition. -/
import Derived.Test.YtmmbmhjdnlmedaaTsCS22
import Derived.Test.YtmmbmhjdnlmedaaTsCS7
import Derived.Test.YtmmbmhjdnlmedaaTsCS14
namespace Go.Proofs
open Go.RowKit Go.Shelf Go.Lib Go.Sort Go.Proofs.Ct Go.Proofs.Tz Go.Maps
theorem lenK (g : Int) (l : List (List Int)) (x : Int) (h : (lenL l : Int) = x) (hl : lenL l ≤ 1000000000000) (W : World) (v : Value) (hv : Tab W v l) : Calls Try.prog 5 #[.agg #[.int .i64 g, v]] W fun e w' => e = .returned (.int .i64 x) ∧ Below W.heap.size W w' := by
  have := length5_any W v g l hv hl
  rwa [h] at this
theorem elimR (n : Nat) (rels : List (List Int)) (rel gen : Int) (h1 : presE n rels = 0) (hb : rel < 0 ∨ (rels.length : Int) ≤ rel ∨ gen < 1 ∨ (n : Int) < gen) (W : World) (vr : Value) (hR : Tab W vr rels) :
    Calls Try.prog 6 #[.agg #[.int .i64 (n : Int), vr], .int .i64 rel, .int .i64 gen] W fun e w' => e = .returned (.tuple #[.agg #[.int .i64 0, .slice none 0 0], .slice none 0 0, .int .i64 2]) ∧ Below W.heap.size W w' :=
  elim6_range W vr n rels rel gen hR h1 hb
theorem simpR (n : Nat) (rels : List (List Int)) (steps : Int) (h1 : presE n rels = 0) (hb : steps < 0 ∨ 1000 < steps) (W : World) (vr : Value) (hR : Tab W vr rels) :
    Calls Try.prog 10 #[.agg #[.int .i64 (n : Int), vr], .int .i64 steps] W fun e w' => e = .returned (.tuple #[.agg #[.int .i64 0, .slice none 0 0], .slice none 0 0, .slice none 0 0, .int .i64 2]) ∧ Below W.heap.size W w' :=
  simplify10_range W vr n rels steps hR h1 hb
set_option maxRecDepth 100000 in
set_option maxHeartbeats 8000000 in
theorem tietzeKnown3_any (w : World) : Calls Try.prog 3 #[] w fun e w' => e = .returned (.bool true) ∧ Below w.heap.size w w' := by
  have HL := Lib.hid (lenK 2 [[1, 1], [1, 2, 1, 2]] 6 (by decide) (by decide))
  have HE1 := Lib.hid (elimK 2 [[1, 2, 2], [1, 1, 1]] 0 1 [[1, 1, 1, 1, 1, 1]] [[-1, -1], [1]] 1 1 2 (by decide +kernel) (by kernel_rfl) (by decide) (by decide) (by decide) rfl rfl)
  have HE2 := Lib.hid (elimK' 2 [[1, 2, 2]] 0 2 13 (by decide +kernel) (by kernel_rfl) (by decide) (by decide))
  have HE3 := Lib.hid (elimK' 1 [[1]] 0 1 13 (by decide +kernel) (by kernel_rfl) (by decide) (by decide))
  have HE4 := Lib.hid (elimR 2 [[1, 2, 2]] 1 1 (by decide +kernel) (by decide))
  have HS1 := Lib.hid (shortK 2 [[1, 1, 1], [1, 1, 2]] [[1, -2], [1, 1, 1]] true 2 (by decide +kernel) (by kernel_rfl) rfl)
  have HS2 := Lib.hid (shortK 1 [[1, 1]] [[1, 1]] false 1 (by decide +kernel) (by kernel_rfl) rfl)
  have HM1 := Lib.hid (simpK 2 [[1, 2], [1, 1, 1]] 0 2 [[1, 2], [1, 1, 1]] [[1], [2]] [1, 2] 2 2 2 (by decide +kernel) (by kernel_rfl) (by decide) rfl rfl rfl)
  have HM2 := Lib.hid (simpK 2 [[1, 2], [1, 1, 1]] 9 1 [[1, 1, 1]] [[1], [-1]] [1] 1 2 1 (by decide +kernel) (by kernel_rfl) (by decide) rfl rfl rfl)
  have HM3 := Lib.hid (simpR 2 [[1]] (-1) (by decide +kernel) (by decide))
  go_enter Try.func3, Try.ntmps3
  have HB0 := Lib.hid (Below.refl w.heap.size w)
  have ht := lit2 w [1, 1] [1, 2, 1, 2] (fits_lit (by decide)) (fits_lit (by decide)) rfl rfl (by decide) (e := 24)
  have hx := lit2_below w [1, 1] [1, 2, 1, 2] 2 4 (e := 24)
  have HT1 := Lib.hid ht
  have HL2 := Lib.hid hx
  clear ht hx
  have HB3 := Lib.hid (bl3 HB0.out HL2.out)
  clear HB0
  go_wp2_with fail
  refine (HL.out _ _ HT1.out).mono ?_
  rintro e v4 ⟨rfl, hb⟩
  have HB5 := Lib.hid (bl3 HB3.out hb)
  have HF6 := Lib.hid (kept_tab.below HT1.out hb)
  clear HT1
  clear HB3
  clear hb
  clear HF6
  have ht := lit2 v4 [1, 2, 2] [1, 1, 1] (fits_lit (by decide)) (fits_lit (by decide)) rfl rfl (by decide) (e := 24)
  have hx := lit2_below v4 [1, 2, 2] [1, 1, 1] 3 3 (e := 24)
  have HT7 := Lib.hid ht
  have HL8 := Lib.hid hx
  clear ht hx
  have HB9 := Lib.hid (bl3 HB5.out HL8.out)
  clear HB5
  go_wp2_with fail
  refine (HE1.out _ _ HT7.out).mono ?_
  rintro e v10 ⟨⟨Aa, ca, Ba, da, rfl, t1, t2⟩, hb⟩
  have HB11 := Lib.hid (bl3 HB9.out hb)
  have HF12 := Lib.hid (kept_tab.below HT7.out hb)
  clear HT7
  clear HB9
  have HF13 := Lib.hid t1
  clear t1
  have HF14 := Lib.hid t2
  clear t2
  clear hb
  clear HF12
  have HN15 : Hid ((v10.alloc (.cells #[.int .i64 1, .slice Aa 1 ca] 27)).heap[v10.heap.size]? = some (.cells #[.int .i64 1, .slice Aa 1 ca] 27 (0, 0))) := Lib.hid (heap_alloc_new _ _)
  have HL16 : Hid (Below v10.heap.size v10 (v10.alloc (.cells #[.int .i64 1, .slice Aa 1 ca] 27))) := Lib.hid ((Below.refl _ _).alloc (Nat.le_refl _) _)
  have HB17 := Lib.hid (bl3 HB11.out HL16.out)
  have HF18 := Lib.hid (kept_tab.below HF13.out HL16.out)
  clear HF13
  have HF19 := Lib.hid (kept_tab.below HF14.out HL16.out)
  clear HF14
  clear HB11
  clear HL16
  obtain ⟨d20, d21⟩ := cell_of2 HN15.out
  have ht := lit1 (v10.alloc (.cells #[.int .i64 1, .slice Aa 1 ca] 27)) [1, 1, 1, 1, 1, 1] (fits_lit (by decide)) rfl (by decide) (e := 24)
  have hx := lit1_below (v10.alloc (.cells #[.int .i64 1, .slice Aa 1 ca] 27)) [1, 1, 1, 1, 1, 1] 6 (e := 24)
  simp only [World.size_alloc] at ht hx
  replace hx := below_sz hx
  have HT22 := Lib.hid ht
  have HL23 := Lib.hid hx
  clear ht hx
  have HB24 := Lib.hid (bl3 HB17.out HL23.out)
  have HF25 := Lib.hid (kept_tab.below HF18.out HL23.out)
  clear HF18
  have HF26 := Lib.hid (kept_tab.below HF19.out HL23.out)
  clear HF19
  have HF27 := Lib.hid ((HL23.out.block _ (Array.getElem?_eq_some_iff.1 HN15.out).1).trans HN15.out)
  clear HN15
  clear HB17
  go_wp2_with fail
  clear d20 d21
  refine (sameK HF25.out HT22.out).mono ?_
  rintro e v28 ⟨rfl, hb⟩
  have HB29 := Lib.hid (bl3 HB24.out hb)
  have HF30 := Lib.hid (kept_tab.below HF25.out hb)
  clear HF25
  have HF31 := Lib.hid (kept_tab.below HF26.out hb)
  clear HF26
  have HF32 := Lib.hid ((hb.block _ (Array.getElem?_eq_some_iff.1 HF27.out).1).trans HF27.out)
  clear HF27
  have HF33 := Lib.hid (kept_tab.below HT22.out hb)
  clear HT22
  clear HB24
  clear hb
  clear HF33
  clear HF30
  clear HF32
  have ht := lit2 v28 [-1, -1] [1] (fits_lit (by decide)) (fits_lit (by decide)) rfl rfl (by decide) (e := 24)
  have hx := lit2_below v28 [-1, -1] [1] 2 1 (e := 24)
  have HT34 := Lib.hid ht
  have HL35 := Lib.hid hx
  clear ht hx
  have HB36 := Lib.hid (bl3 HB29.out HL35.out)
  have HF37 := Lib.hid (kept_tab.below HF31.out HL35.out)
  clear HF31
  clear HB29
  go_wp2_with fail
  refine (equalK HF37.out HT34.out).mono ?_
  rintro e v38 ⟨rfl, hb⟩
  have HB39 := Lib.hid (bl3 HB36.out hb)
  have HF40 := Lib.hid (kept_tab.below HF37.out hb)
  clear HF37
  have HF41 := Lib.hid (kept_tab.below HT34.out hb)
  clear HT34
  clear HB36
  clear hb
  clear HF41
  clear HF40
  have ht := lit1 v38 [1, 2, 2] (fits_lit (by decide)) rfl (by decide) (e := 24)
  have hx := lit1_below v38 [1, 2, 2] 3 (e := 24)
  have HT42 := Lib.hid ht
  have HL43 := Lib.hid hx
  clear ht hx
  have HB44 := Lib.hid (bl3 HB39.out HL43.out)
  clear HB39
  go_wp2_with fail
  refine (HE2.out _ _ HT42.out).mono ?_
  rintro e v45 ⟨rfl, hb⟩
  have HB46 := Lib.hid (bl3 HB44.out hb)
  have HF47 := Lib.hid (kept_tab.below HT42.out hb)
  clear HT42
  clear HB44
  clear hb
  clear HF47
  have HN48 : Hid ((v45.alloc (.cells #[.int .i64 0, .slice none 0 0] 27)).heap[v45.heap.size]? = some (.cells #[.int .i64 0, .slice none 0 0] 27 (0, 0))) := Lib.hid (heap_alloc_new _ _)
  have HL49 : Hid (Below v45.heap.size v45 (v45.alloc (.cells #[.int .i64 0, .slice none 0 0] 27))) := Lib.hid ((Below.refl _ _).alloc (Nat.le_refl _) _)
  have HB50 := Lib.hid (bl3 HB46.out HL49.out)
  clear HB46
  clear HL49
  clear HN48
  have ht := lit1 (v45.alloc (.cells #[.int .i64 0, .slice none 0 0] 27)) [1] (fits_lit (by decide)) rfl (by decide) (e := 24)
  have hx := lit1_below (v45.alloc (.cells #[.int .i64 0, .slice none 0 0] 27)) [1] 1 (e := 24)
  simp only [World.size_alloc] at ht hx
  replace hx := below_sz hx
  have HT51 := Lib.hid ht
  have HL52 := Lib.hid hx
  clear ht hx
  have HB53 := Lib.hid (bl3 HB50.out HL52.out)
  clear HB50
  go_wp2_with fail
  refine (HE3.out _ _ HT51.out).mono ?_
  rintro e v54 ⟨rfl, hb⟩
  have HB55 := Lib.hid (bl3 HB53.out hb)
  have HF56 := Lib.hid (kept_tab.below HT51.out hb)
  clear HT51
  clear HB53
  clear hb
  clear HF56
  have HN57 : Hid ((v54.alloc (.cells #[.int .i64 0, .slice none 0 0] 27)).heap[v54.heap.size]? = some (.cells #[.int .i64 0, .slice none 0 0] 27 (0, 0))) := Lib.hid (heap_alloc_new _ _)
  have HL58 : Hid (Below v54.heap.size v54 (v54.alloc (.cells #[.int .i64 0, .slice none 0 0] 27))) := Lib.hid ((Below.refl _ _).alloc (Nat.le_refl _) _)
  have HB59 := Lib.hid (bl3 HB55.out HL58.out)
  clear HB55
  clear HL58
  clear HN57
  have ht := lit1 (v54.alloc (.cells #[.int .i64 0, .slice none 0 0] 27)) [1, 2, 2] (fits_lit (by decide)) rfl (by decide) (e := 24)
  have hx := lit1_below (v54.alloc (.cells #[.int .i64 0, .slice none 0 0] 27)) [1, 2, 2] 3 (e := 24)
  simp only [World.size_alloc] at ht hx
  replace hx := below_sz hx
  have HT60 := Lib.hid ht
  have HL61 := Lib.hid hx
  clear ht hx
  have HB62 := Lib.hid (bl3 HB59.out HL61.out)
  clear HB59
  go_wp2_with fail
  refine (HE4.out _ _ HT60.out).mono ?_
  rintro e v63 ⟨rfl, hb⟩
  have HB64 := Lib.hid (bl3 HB62.out hb)
  have HF65 := Lib.hid (kept_tab.below HT60.out hb)
  clear HT60
  clear HB62
  clear hb
  clear HF65
  have HN66 : Hid ((v63.alloc (.cells #[.int .i64 0, .slice none 0 0] 27)).heap[v63.heap.size]? = some (.cells #[.int .i64 0, .slice none 0 0] 27 (0, 0))) := Lib.hid (heap_alloc_new _ _)
  have HL67 : Hid (Below v63.heap.size v63 (v63.alloc (.cells #[.int .i64 0, .slice none 0 0] 27))) := Lib.hid ((Below.refl _ _).alloc (Nat.le_refl _) _)
  have HB68 := Lib.hid (bl3 HB64.out HL67.out)
  clear HB64
  clear HL67
  clear HN66
  have ht := lit2 (v63.alloc (.cells #[.int .i64 0, .slice none 0 0] 27)) [1, 1, 1] [1, 1, 2] (fits_lit (by decide)) (fits_lit (by decide)) rfl rfl (by decide) (e := 24)
  have hx := lit2_below (v63.alloc (.cells #[.int .i64 0, .slice none 0 0] 27)) [1, 1, 1] [1, 1, 2] 3 3 (e := 24)
  simp only [World.size_alloc] at ht hx
  replace hx := below_sz hx
  have HT69 := Lib.hid ht
  have HL70 := Lib.hid hx
  clear ht hx
  have HB71 := Lib.hid (bl3 HB68.out HL70.out)
  clear HB68
  go_wp2_with fail
  refine (HS1.out _ _ HT69.out).mono ?_
  rintro e v72 ⟨⟨Ab, cb, rfl, t1⟩, hb⟩
  have HB73 := Lib.hid (bl3 HB71.out hb)
  have HF74 := Lib.hid (kept_tab.below HT69.out hb)
  clear HT69
  clear HB71
  have HF75 := Lib.hid t1
  clear t1
  clear hb
  clear HF74
  have HN76 : Hid ((v72.alloc (.cells #[.int .i64 2, .slice Ab 2 cb] 27)).heap[v72.heap.size]? = some (.cells #[.int .i64 2, .slice Ab 2 cb] 27 (0, 0))) := Lib.hid (heap_alloc_new _ _)
  have HL77 : Hid (Below v72.heap.size v72 (v72.alloc (.cells #[.int .i64 2, .slice Ab 2 cb] 27))) := Lib.hid ((Below.refl _ _).alloc (Nat.le_refl _) _)
  have HB78 := Lib.hid (bl3 HB73.out HL77.out)
  have HF79 := Lib.hid (kept_tab.below HF75.out HL77.out)
  clear HF75
  clear HB73
  clear HL77
  have ht := lit1 (v72.alloc (.cells #[.int .i64 2, .slice Ab 2 cb] 27)) [1, 1] (fits_lit (by decide)) rfl (by decide) (e := 24)
  have hx := lit1_below (v72.alloc (.cells #[.int .i64 2, .slice Ab 2 cb] 27)) [1, 1] 2 (e := 24)
  simp only [World.size_alloc] at ht hx
  replace hx := below_sz hx
  have HT80 := Lib.hid ht
  have HL81 := Lib.hid hx
  clear ht hx
  have HB82 := Lib.hid (bl3 HB78.out HL81.out)
  have HF83 := Lib.hid (kept_tab.below HF79.out HL81.out)
  clear HF79
  have HF84 := Lib.hid ((HL81.out.block _ (Array.getElem?_eq_some_iff.1 HN76.out).1).trans HN76.out)
  clear HN76
  clear HB78
  go_wp2_with fail
  refine (HS2.out _ _ HT80.out).mono ?_
  rintro e v85 ⟨⟨Ak, ck, rfl, t1⟩, hb⟩
  have HB86 := Lib.hid (bl3 HB82.out hb)
  have HF87 := Lib.hid (kept_tab.below HF83.out hb)
  clear HF83
  have HF88 := Lib.hid ((hb.block _ (Array.getElem?_eq_some_iff.1 HF84.out).1).trans HF84.out)
  clear HF84
  have HF89 := Lib.hid (kept_tab.below HT80.out hb)
  clear HT80
  clear HB82
  have HF90 := Lib.hid t1
  clear t1
  clear hb
  clear HF89
  have HN91 : Hid ((v85.alloc (.cells #[.int .i64 1, .slice Ak 1 ck] 27)).heap[v85.heap.size]? = some (.cells #[.int .i64 1, .slice Ak 1 ck] 27 (0, 0))) := Lib.hid (heap_alloc_new _ _)
  have HL92 : Hid (Below v85.heap.size v85 (v85.alloc (.cells #[.int .i64 1, .slice Ak 1 ck] 27))) := Lib.hid ((Below.refl _ _).alloc (Nat.le_refl _) _)
  have HB93 := Lib.hid (bl3 HB86.out HL92.out)
  have HF94 := Lib.hid (kept_tab.below HF87.out HL92.out)
  clear HF87
  have HF95 := Lib.hid ((HL92.out.block _ (Array.getElem?_eq_some_iff.1 HF88.out).1).trans HF88.out)
  clear HF88
  have HF96 := Lib.hid (kept_tab.below HF90.out HL92.out)
  clear HF90
  clear HB86
  clear HL92
  obtain ⟨d97, d98⟩ := cell_of2 HF95.out
  have ht := lit2 (v85.alloc (.cells #[.int .i64 1, .slice Ak 1 ck] 27)) [1, -2] [1, 1, 1] (fits_lit (by decide)) (fits_lit (by decide)) rfl rfl (by decide) (e := 24)
  have hx := lit2_below (v85.alloc (.cells #[.int .i64 1, .slice Ak 1 ck] 27)) [1, -2] [1, 1, 1] 2 3 (e := 24)
  simp only [World.size_alloc] at ht hx
  replace hx := below_sz hx
  have HT99 := Lib.hid ht
  have HL100 := Lib.hid hx
  clear ht hx
  have HB101 := Lib.hid (bl3 HB93.out HL100.out)
  have HF102 := Lib.hid (kept_tab.below HF94.out HL100.out)
  clear HF94
  have HF103 := Lib.hid ((HL100.out.block _ (Array.getElem?_eq_some_iff.1 HF95.out).1).trans HF95.out)
  clear HF95
  have HF104 := Lib.hid (kept_tab.below HF96.out HL100.out)
  clear HF96
  have HF105 := Lib.hid ((HL100.out.block _ (Array.getElem?_eq_some_iff.1 HN91.out).1).trans HN91.out)
  clear HN91
  clear HB93
  go_wp2_with fail
  clear d97 d98
  refine (sameK HF102.out HT99.out).mono ?_
  rintro e v106 ⟨rfl, hb⟩
  have HB107 := Lib.hid (bl3 HB101.out hb)
  have HF108 := Lib.hid (kept_tab.below HF102.out hb)
  clear HF102
  have HF109 := Lib.hid ((hb.block _ (Array.getElem?_eq_some_iff.1 HF103.out).1).trans HF103.out)
  clear HF103
  have HF110 := Lib.hid (kept_tab.below HF104.out hb)
  clear HF104
  have HF111 := Lib.hid ((hb.block _ (Array.getElem?_eq_some_iff.1 HF105.out).1).trans HF105.out)
  clear HF105
  have HF112 := Lib.hid (kept_tab.below HT99.out hb)
  clear HT99
  clear HB101
  clear hb
  clear HF112
  clear HF108
  clear HF109
  obtain ⟨d113, d114⟩ := cell_of2 HF111.out
  have ht := lit1 v106 [1, 1] (fits_lit (by decide)) rfl (by decide) (e := 24)
  have hx := lit1_below v106 [1, 1] 2 (e := 24)
  have HT115 := Lib.hid ht
  have HL116 := Lib.hid hx
  clear ht hx
  have HB117 := Lib.hid (bl3 HB107.out HL116.out)
  have HF118 := Lib.hid (kept_tab.below HF110.out HL116.out)
  clear HF110
  have HF119 := Lib.hid ((HL116.out.block _ (Array.getElem?_eq_some_iff.1 HF111.out).1).trans HF111.out)
  clear HF111
  clear HB107
  go_wp2_with fail
  clear d113 d114
  refine (sameK HF118.out HT115.out).mono ?_
  rintro e v120 ⟨rfl, hb⟩
  have HB121 := Lib.hid (bl3 HB117.out hb)
  have HF122 := Lib.hid (kept_tab.below HF118.out hb)
  clear HF118
  have HF123 := Lib.hid ((hb.block _ (Array.getElem?_eq_some_iff.1 HF119.out).1).trans HF119.out)
  clear HF119
  have HF124 := Lib.hid (kept_tab.below HT115.out hb)
  clear HT115
  clear HB117
  clear hb
  clear HF124
  clear HF122
  clear HF123
  have ht := lit2 v120 [1, 2] [1, 1, 1] (fits_lit (by decide)) (fits_lit (by decide)) rfl rfl (by decide) (e := 24)
  have hx := lit2_below v120 [1, 2] [1, 1, 1] 2 3 (e := 24)
  have HT125 := Lib.hid ht
  have HL126 := Lib.hid hx
  clear ht hx
  have HB127 := Lib.hid (bl3 HB121.out HL126.out)
  clear HB121
  have HN128 : Hid ((((((v120.alloc (.cells (ints [1, 2]).toArray 3)).alloc (.cells (ints [1, 1, 1]).toArray 3)).alloc (.cells #[.slice (some ⟨v120.heap.size, 0, none⟩) 2 2, .slice (some ⟨v120.heap.size + 1, 0, none⟩) 3 3] 24))).alloc (.cells #[.int .i64 2, .slice (some ⟨v120.heap.size + 1 + 1, 0, none⟩) 2 2] 27)).heap[(v120.heap.size + 1 + 1 + 1)]? = some (.cells #[.int .i64 2, .slice (some ⟨v120.heap.size + 1 + 1, 0, none⟩) 2 2] 27 (0, 0))) := Lib.hid (by have h := heap_alloc_new ((((v120.alloc (.cells (ints [1, 2]).toArray 3)).alloc (.cells (ints [1, 1, 1]).toArray 3)).alloc (.cells #[.slice (some ⟨v120.heap.size, 0, none⟩) 2 2, .slice (some ⟨v120.heap.size + 1, 0, none⟩) 3 3] 24))) (.cells #[.int .i64 2, .slice (some ⟨v120.heap.size + 1 + 1, 0, none⟩) 2 2] 27); simp only [World.size_alloc] at h; exact h)
  have HL129 : Hid (Below ((((v120.alloc (.cells (ints [1, 2]).toArray 3)).alloc (.cells (ints [1, 1, 1]).toArray 3)).alloc (.cells #[.slice (some ⟨v120.heap.size, 0, none⟩) 2 2, .slice (some ⟨v120.heap.size + 1, 0, none⟩) 3 3] 24))).heap.size ((((v120.alloc (.cells (ints [1, 2]).toArray 3)).alloc (.cells (ints [1, 1, 1]).toArray 3)).alloc (.cells #[.slice (some ⟨v120.heap.size, 0, none⟩) 2 2, .slice (some ⟨v120.heap.size + 1, 0, none⟩) 3 3] 24))) (((((v120.alloc (.cells (ints [1, 2]).toArray 3)).alloc (.cells (ints [1, 1, 1]).toArray 3)).alloc (.cells #[.slice (some ⟨v120.heap.size, 0, none⟩) 2 2, .slice (some ⟨v120.heap.size + 1, 0, none⟩) 3 3] 24))).alloc (.cells #[.int .i64 2, .slice (some ⟨v120.heap.size + 1 + 1, 0, none⟩) 2 2] 27))) := Lib.hid ((Below.refl _ _).alloc (Nat.le_refl _) _)
  have HB130 := Lib.hid (bl3 HB127.out HL129.out)
  have HF131 := Lib.hid (kept_tab.below HT125.out HL129.out)
  clear HT125
  clear HB127
  clear HL129
  obtain ⟨d132, d133⟩ := cell_of2 HN128.out
  go_wp2_with fail
  clear d132 d133
  refine (HM1.out _ _ HF131.out).mono ?_
  rintro e v134 ⟨⟨Am, cm, Bm, dm, Dm, fm, rfl, t1, t2, t3⟩, hb⟩
  have HB135 := Lib.hid (bl3 HB130.out hb)
  have HF136 := Lib.hid (kept_tab.below HF131.out hb)
  clear HF131
  have HF137 := Lib.hid ((hb.block _ (Array.getElem?_eq_some_iff.1 HN128.out).1).trans HN128.out)
  clear HN128
  clear HB130
  have HF138 := Lib.hid t1
  clear t1
  have HF139 := Lib.hid t2
  clear t2
  have HF140 := Lib.hid t3
  clear t3
  clear hb
  have HN141 : Hid ((v134.alloc (.cells #[.int .i64 2, .slice Am 2 cm] 27)).heap[v134.heap.size]? = some (.cells #[.int .i64 2, .slice Am 2 cm] 27 (0, 0))) := Lib.hid (heap_alloc_new _ _)
  have HL142 : Hid (Below v134.heap.size v134 (v134.alloc (.cells #[.int .i64 2, .slice Am 2 cm] 27))) := Lib.hid ((Below.refl _ _).alloc (Nat.le_refl _) _)
  have HB143 := Lib.hid (bl3 HB135.out HL142.out)
  have HF144 := Lib.hid (kept_tab.below HF136.out HL142.out)
  clear HF136
  have HF145 := Lib.hid ((HL142.out.block _ (Array.getElem?_eq_some_iff.1 HF137.out).1).trans HF137.out)
  clear HF137
  have HF146 := Lib.hid (kept_tab.below HF138.out HL142.out)
  clear HF138
  have HF147 := Lib.hid (kept_tab.below HF139.out HL142.out)
  clear HF139
  have HF148 := Lib.hid (IntsAt.below HF140.out HL142.out)
  clear HF140
  clear HB135
  clear HL142
  obtain ⟨d149, d150⟩ := cell_of2 HF145.out
  go_wp2_with fail
  clear d149 d150
  refine (HM2.out _ _ HF144.out).mono ?_
  rintro e v151 ⟨⟨An, cn, Bn, dn, Dn, fn, rfl, t1, t2, t3⟩, hb⟩
  have HB152 := Lib.hid (bl3 HB143.out hb)
  have HF153 := Lib.hid (kept_tab.below HF144.out hb)
  clear HF144
  have HF154 := Lib.hid ((hb.block _ (Array.getElem?_eq_some_iff.1 HF145.out).1).trans HF145.out)
  clear HF145
  have HF155 := Lib.hid (kept_tab.below HF146.out hb)
  clear HF146
  have HF156 := Lib.hid (kept_tab.below HF147.out hb)
  clear HF147
  have HF157 := Lib.hid (IntsAt.below HF148.out hb)
  clear HF148
  have HF158 := Lib.hid ((hb.block _ (Array.getElem?_eq_some_iff.1 HN141.out).1).trans HN141.out)
  clear HN141
  clear HB143
  have HF159 := Lib.hid t1
  clear t1
  have HF160 := Lib.hid t2
  clear t2
  have HF161 := Lib.hid t3
  clear t3
  clear hb
  have HN162 : Hid ((v151.alloc (.cells #[.int .i64 1, .slice An 1 cn] 27)).heap[v151.heap.size]? = some (.cells #[.int .i64 1, .slice An 1 cn] 27 (0, 0))) := Lib.hid (heap_alloc_new _ _)
  have HL163 : Hid (Below v151.heap.size v151 (v151.alloc (.cells #[.int .i64 1, .slice An 1 cn] 27))) := Lib.hid ((Below.refl _ _).alloc (Nat.le_refl _) _)
  have HB164 := Lib.hid (bl3 HB152.out HL163.out)
  have HF165 := Lib.hid (kept_tab.below HF153.out HL163.out)
  clear HF153
  have HF166 := Lib.hid ((HL163.out.block _ (Array.getElem?_eq_some_iff.1 HF154.out).1).trans HF154.out)
  clear HF154
  have HF167 := Lib.hid (kept_tab.below HF155.out HL163.out)
  clear HF155
  have HF168 := Lib.hid (kept_tab.below HF156.out HL163.out)
  clear HF156
  have HF169 := Lib.hid (IntsAt.below HF157.out HL163.out)
  clear HF157
  have HF170 := Lib.hid ((HL163.out.block _ (Array.getElem?_eq_some_iff.1 HF158.out).1).trans HF158.out)
  clear HF158
  have HF171 := Lib.hid (kept_tab.below HF159.out HL163.out)
  clear HF159
  have HF172 := Lib.hid (kept_tab.below HF160.out HL163.out)
  clear HF160
  have HF173 := Lib.hid (IntsAt.below HF161.out HL163.out)
  clear HF161
  clear HB152
  clear HL163
  have ht := lit1 (v151.alloc (.cells #[.int .i64 1, .slice An 1 cn] 27)) [1] (fits_lit (by decide)) rfl (by decide) (e := 24)
  have hx := lit1_below (v151.alloc (.cells #[.int .i64 1, .slice An 1 cn] 27)) [1] 1 (e := 24)
  simp only [World.size_alloc] at ht hx
  replace hx := below_sz hx
  have HT174 := Lib.hid ht
  have HL175 := Lib.hid hx
  clear ht hx
  have HB176 := Lib.hid (bl3 HB164.out HL175.out)
  have HF177 := Lib.hid (kept_tab.below HF165.out HL175.out)
  clear HF165
  have HF178 := Lib.hid ((HL175.out.block _ (Array.getElem?_eq_some_iff.1 HF166.out).1).trans HF166.out)
  clear HF166
  have HF179 := Lib.hid (kept_tab.below HF167.out HL175.out)
  clear HF167
  have HF180 := Lib.hid (kept_tab.below HF168.out HL175.out)
  clear HF168
  have HF181 := Lib.hid (IntsAt.below HF169.out HL175.out)
  clear HF169
  have HF182 := Lib.hid ((HL175.out.block _ (Array.getElem?_eq_some_iff.1 HF170.out).1).trans HF170.out)
  clear HF170
  have HF183 := Lib.hid (kept_tab.below HF171.out HL175.out)
  clear HF171
  have HF184 := Lib.hid (kept_tab.below HF172.out HL175.out)
  clear HF172
  have HF185 := Lib.hid (IntsAt.below HF173.out HL175.out)
  clear HF173
  have HF186 := Lib.hid ((HL175.out.block _ (Array.getElem?_eq_some_iff.1 HN162.out).1).trans HN162.out)
  clear HN162
  clear HB164
  go_wp2_with fail
  refine (HM3.out _ _ HT174.out).mono ?_
  rintro e v187 ⟨rfl, hb⟩
  have HB188 := Lib.hid (bl3 HB176.out hb)
  have HF189 := Lib.hid (kept_tab.below HF177.out hb)
  clear HF177
  have HF190 := Lib.hid ((hb.block _ (Array.getElem?_eq_some_iff.1 HF178.out).1).trans HF178.out)
  clear HF178
  have HF191 := Lib.hid (kept_tab.below HF179.out hb)
  clear HF179
  have HF192 := Lib.hid (kept_tab.below HF180.out hb)
  clear HF180
  have HF193 := Lib.hid (IntsAt.below HF181.out hb)
  clear HF181
  have HF194 := Lib.hid ((hb.block _ (Array.getElem?_eq_some_iff.1 HF182.out).1).trans HF182.out)
  clear HF182
  have HF195 := Lib.hid (kept_tab.below HF183.out hb)
  clear HF183
  have HF196 := Lib.hid (kept_tab.below HF184.out hb)
  clear HF184
  have HF197 := Lib.hid (IntsAt.below HF185.out hb)
  clear HF185
  have HF198 := Lib.hid ((hb.block _ (Array.getElem?_eq_some_iff.1 HF186.out).1).trans HF186.out)
  clear HF186
  have HF199 := Lib.hid (kept_tab.below HT174.out hb)
  clear HT174
  clear HB176
  clear hb
  clear HF199
  have HN200 : Hid ((v187.alloc (.cells #[.int .i64 0, .slice none 0 0] 27)).heap[v187.heap.size]? = some (.cells #[.int .i64 0, .slice none 0 0] 27 (0, 0))) := Lib.hid (heap_alloc_new _ _)
  have HL201 : Hid (Below v187.heap.size v187 (v187.alloc (.cells #[.int .i64 0, .slice none 0 0] 27))) := Lib.hid ((Below.refl _ _).alloc (Nat.le_refl _) _)
  have HB202 := Lib.hid (bl3 HB188.out HL201.out)
  have HF203 := Lib.hid (kept_tab.below HF189.out HL201.out)
  clear HF189
  have HF204 := Lib.hid ((HL201.out.block _ (Array.getElem?_eq_some_iff.1 HF190.out).1).trans HF190.out)
  clear HF190
  have HF205 := Lib.hid (kept_tab.below HF191.out HL201.out)
  clear HF191
  have HF206 := Lib.hid (kept_tab.below HF192.out HL201.out)
  clear HF192
  have HF207 := Lib.hid (IntsAt.below HF193.out HL201.out)
  clear HF193
  have HF208 := Lib.hid ((HL201.out.block _ (Array.getElem?_eq_some_iff.1 HF194.out).1).trans HF194.out)
  clear HF194
  have HF209 := Lib.hid (kept_tab.below HF195.out HL201.out)
  clear HF195
  have HF210 := Lib.hid (kept_tab.below HF196.out HL201.out)
  clear HF196
  have HF211 := Lib.hid (IntsAt.below HF197.out HL201.out)
  clear HF197
  have HF212 := Lib.hid ((HL201.out.block _ (Array.getElem?_eq_some_iff.1 HF198.out).1).trans HF198.out)
  clear HF198
  clear HB188
  clear HL201
  clear HN200
  obtain ⟨d213, d214⟩ := cell_of2 HF208.out
  obtain ⟨d215, d216⟩ := cell_of2 HF204.out
  go_wp2_with fail
  clear d213 d214 d215 d216
  refine (sameK HF205.out HF203.out).mono ?_
  rintro e v217 ⟨rfl, hb⟩
  have HB218 := Lib.hid (bl3 HB202.out hb)
  have HF219 := Lib.hid (kept_tab.below HF203.out hb)
  clear HF203
  have HF220 := Lib.hid ((hb.block _ (Array.getElem?_eq_some_iff.1 HF204.out).1).trans HF204.out)
  clear HF204
  have HF221 := Lib.hid (kept_tab.below HF205.out hb)
  clear HF205
  have HF222 := Lib.hid (kept_tab.below HF206.out hb)
  clear HF206
  have HF223 := Lib.hid (IntsAt.below HF207.out hb)
  clear HF207
  have HF224 := Lib.hid ((hb.block _ (Array.getElem?_eq_some_iff.1 HF208.out).1).trans HF208.out)
  clear HF208
  have HF225 := Lib.hid (kept_tab.below HF209.out hb)
  clear HF209
  have HF226 := Lib.hid (kept_tab.below HF210.out hb)
  clear HF210
  have HF227 := Lib.hid (IntsAt.below HF211.out hb)
  clear HF211
  have HF228 := Lib.hid ((hb.block _ (Array.getElem?_eq_some_iff.1 HF212.out).1).trans HF212.out)
  clear HF212
  clear HB202
  clear hb
  clear HF221
  clear HF219
  clear HF220
  clear HF224
  have ht := lit2 v217 [1] [2] (fits_lit (by decide)) (fits_lit (by decide)) rfl rfl (by decide) (e := 24)
  have hx := lit2_below v217 [1] [2] 1 1 (e := 24)
  have HT229 := Lib.hid ht
  have HL230 := Lib.hid hx
  clear ht hx
  have HB231 := Lib.hid (bl3 HB218.out HL230.out)
  have HF232 := Lib.hid (kept_tab.below HF222.out HL230.out)
  clear HF222
  have HF233 := Lib.hid (IntsAt.below HF223.out HL230.out)
  clear HF223
  have HF234 := Lib.hid (kept_tab.below HF225.out HL230.out)
  clear HF225
  have HF235 := Lib.hid (kept_tab.below HF226.out HL230.out)
  clear HF226
  have HF236 := Lib.hid (IntsAt.below HF227.out HL230.out)
  clear HF227
  have HF237 := Lib.hid ((HL230.out.block _ (Array.getElem?_eq_some_iff.1 HF228.out).1).trans HF228.out)
  clear HF228
  clear HB218
  go_wp2_with fail
  refine (equalK HF232.out HT229.out).mono ?_
  rintro e v238 ⟨rfl, hb⟩
  have HB239 := Lib.hid (bl3 HB231.out hb)
  have HF240 := Lib.hid (kept_tab.below HF232.out hb)
  clear HF232
  have HF241 := Lib.hid (IntsAt.below HF233.out hb)
  clear HF233
  have HF242 := Lib.hid (kept_tab.below HF234.out hb)
  clear HF234
  have HF243 := Lib.hid (kept_tab.below HF235.out hb)
  clear HF235
  have HF244 := Lib.hid (IntsAt.below HF236.out hb)
  clear HF236
  have HF245 := Lib.hid ((hb.block _ (Array.getElem?_eq_some_iff.1 HF237.out).1).trans HF237.out)
  clear HF237
  have HF246 := Lib.hid (kept_tab.below HT229.out hb)
  clear HT229
  clear HB231
  clear hb
  clear HF246
  clear HF240
  have HT247 := Lib.hid (ints_lit v238 [1, 2] (fits_lit (by decide)) 2 rfl (by decide))
  have HL248 : Hid (Below v238.heap.size v238 (v238.alloc (.cells (ints [1, 2]).toArray 3))) := Lib.hid ((Below.refl _ _).alloc (Nat.le_refl _) _)
  have HB249 := Lib.hid (bl3 HB239.out HL248.out)
  have HF250 := Lib.hid (IntsAt.below HF241.out HL248.out)
  clear HF241
  have HF251 := Lib.hid (kept_tab.below HF242.out HL248.out)
  clear HF242
  have HF252 := Lib.hid (kept_tab.below HF243.out HL248.out)
  clear HF243
  have HF253 := Lib.hid (IntsAt.below HF244.out HL248.out)
  clear HF244
  have HF254 := Lib.hid ((HL248.out.block _ (Array.getElem?_eq_some_iff.1 HF245.out).1).trans HF245.out)
  clear HF245
  clear HB239
  go_wp2_with fail
  refine (numbersK HF250.out HT247.out).mono ?_
  rintro e v255 ⟨rfl, hb⟩
  have HB256 := Lib.hid (bl3 HB249.out hb)
  have HF257 := Lib.hid (IntsAt.below HF250.out hb)
  clear HF250
  have HF258 := Lib.hid (kept_tab.below HF251.out hb)
  clear HF251
  have HF259 := Lib.hid (kept_tab.below HF252.out hb)
  clear HF252
  have HF260 := Lib.hid (IntsAt.below HF253.out hb)
  clear HF253
  have HF261 := Lib.hid ((hb.block _ (Array.getElem?_eq_some_iff.1 HF254.out).1).trans HF254.out)
  clear HF254
  have HF262 := Lib.hid (IntsAt.below HT247.out hb)
  clear HT247
  clear HB249
  clear hb
  clear HF262
  clear HF257
  obtain ⟨d263, d264⟩ := cell_of2 HF261.out
  have ht := lit1 v255 [1, 1, 1] (fits_lit (by decide)) rfl (by decide) (e := 24)
  have hx := lit1_below v255 [1, 1, 1] 3 (e := 24)
  have HT265 := Lib.hid ht
  have HL266 := Lib.hid hx
  clear ht hx
  have HB267 := Lib.hid (bl3 HB256.out HL266.out)
  have HF268 := Lib.hid (kept_tab.below HF258.out HL266.out)
  clear HF258
  have HF269 := Lib.hid (kept_tab.below HF259.out HL266.out)
  clear HF259
  have HF270 := Lib.hid (IntsAt.below HF260.out HL266.out)
  clear HF260
  have HF271 := Lib.hid ((HL266.out.block _ (Array.getElem?_eq_some_iff.1 HF261.out).1).trans HF261.out)
  clear HF261
  clear HB256
  go_wp2_with fail
  clear d263 d264
  refine (sameK HF268.out HT265.out).mono ?_
  rintro e v272 ⟨rfl, hb⟩
  have HB273 := Lib.hid (bl3 HB267.out hb)
  have HF274 := Lib.hid (kept_tab.below HF268.out hb)
  clear HF268
  have HF275 := Lib.hid (kept_tab.below HF269.out hb)
  clear HF269
  have HF276 := Lib.hid (IntsAt.below HF270.out hb)
  clear HF270
  have HF277 := Lib.hid ((hb.block _ (Array.getElem?_eq_some_iff.1 HF271.out).1).trans HF271.out)
  clear HF271
  have HF278 := Lib.hid (kept_tab.below HT265.out hb)
  clear HT265
  clear HB267
  clear hb
  clear HF278
  clear HF274
  clear HF277
  have ht := lit2 v272 [1] [-1] (fits_lit (by decide)) (fits_lit (by decide)) rfl rfl (by decide) (e := 24)
  have hx := lit2_below v272 [1] [-1] 1 1 (e := 24)
  have HT279 := Lib.hid ht
  have HL280 := Lib.hid hx
  clear ht hx
  have HB281 := Lib.hid (bl3 HB273.out HL280.out)
  have HF282 := Lib.hid (kept_tab.below HF275.out HL280.out)
  clear HF275
  have HF283 := Lib.hid (IntsAt.below HF276.out HL280.out)
  clear HF276
  clear HB273
  go_wp2_with fail
  refine (equalK HF282.out HT279.out).mono ?_
  rintro e v284 ⟨rfl, hb⟩
  have HB285 := Lib.hid (bl3 HB281.out hb)
  have HF286 := Lib.hid (kept_tab.below HF282.out hb)
  clear HF282
  have HF287 := Lib.hid (IntsAt.below HF283.out hb)
  clear HF283
  have HF288 := Lib.hid (kept_tab.below HT279.out hb)
  clear HT279
  clear HB281
  clear hb
  clear HF288
  clear HF286
  have HT289 := Lib.hid (ints_lit v284 [1] (fits_lit (by decide)) 1 rfl (by decide))
  have HL290 : Hid (Below v284.heap.size v284 (v284.alloc (.cells (ints [1]).toArray 3))) := Lib.hid ((Below.refl _ _).alloc (Nat.le_refl _) _)
  have HB291 := Lib.hid (bl3 HB285.out HL290.out)
  have HF292 := Lib.hid (IntsAt.below HF287.out HL290.out)
  clear HF287
  clear HB285
  go_wp2_with fail
  refine (numbersK HF292.out HT289.out).mono ?_
  rintro e v293 ⟨rfl, hb⟩
  have HB294 := Lib.hid (bl3 HB291.out hb)
  have HF295 := Lib.hid (IntsAt.below HF292.out hb)
  clear HF292
  have HF296 := Lib.hid (IntsAt.below HT289.out hb)
  clear HT289
  clear HB291
  clear hb
  clear HF296
  clear HF295
  go_wp2_with fail
  refine (awake12_any _).mono ?_
  rintro e v297 ⟨rfl, hb⟩
  have HB298 := Lib.hid (bl3 HB294.out hb)
  clear HB294
  clear hb
  go_wp2_with fail
  go_ret
  exact ⟨rfl, HB298.out⟩
end Go.Proofs
namespace Go.Proofs
open Go.RowKit Go.Shelf Go.Lib Go.Sort Go.Proofs.Ct Go.Proofs.Tz Go.Maps
set_option maxRecDepth 100000 in
set_option maxHeartbeats 4000000 in
theorem same4_long (w : World) (degree steps : Int) (va vb vl vd : Value) (a b l df : List Int) (ha : IntsAt w va a) (hb : IntsAt w vb b) (hl : IntsAt w vl l) (hd : IntsAt w vd df) (hh : 5 < a.length ∨ 5 < b.length ∨ 30 < l.length ∨ 20 < df.length) :
    Calls Try.prog 4 #[.int .i64 degree, .int .i64 steps, va, vb, vl, vd] w fun e w' => e = .returned (.bool true) ∧ Below w.heap.size w w' := by
  obtain ⟨Aa, ca, rfl, -, -, -⟩ := ha.open_
  obtain ⟨Ab, cb, rfl, -, -, -⟩ := hb.open_
  obtain ⟨Al, cl, rfl, -, -, -⟩ := hl.open_
  obtain ⟨Ad, cd, rfl, -, -, -⟩ := hd.open_
  have H3 := Lib.hid (tietzeKnown3_any w)
  have h4 : (decide (5 < (a.length : Int)) = true) ∨ (decide (5 < (a.length : Int)) = false ∧ decide (5 < (b.length : Int)) = true) ∨ (decide (5 < (a.length : Int)) = false ∧ decide (5 < (b.length : Int)) = false ∧ decide (30 < (l.length : Int)) = true) ∨ (decide (5 < (a.length : Int)) = false ∧ decide (5 < (b.length : Int)) = false ∧ decide (30 < (l.length : Int)) = false ∧ decide (20 < (df.length : Int)) = true) := by
    simp only [decide_eq_true_eq, decide_eq_false_iff_not]
    omega
  clear ha hb hl hd hh
  generalize a.length = na at *
  generalize b.length = nb at *
  generalize l.length = nl at *
  generalize df.length = nd at *
  rcases h4 with d1 | ⟨d1, d2⟩ | ⟨d1, d2, d3⟩ | ⟨d1, d2, d3, d4⟩
  all_goals
    go_enter Try.func4, Try.ntmps4
    go_wp2_with fail
    refine H3.out.mono ?_
    rintro e w1 ⟨rfl, hb⟩
    have HB := Lib.hid hb
    clear hb
    go_wp2_with fail
    go_ret
    exact ⟨rfl, HB.out⟩
end Go.Proofs
namespace Go.Proofs
open Go.RowKit Go.Shelf Go.Proofs.Ct Go.Maps
theorem outSt_sliced {F : Nat → Prop} {w w' : World} {A : Option Addr} {c h : Nat} {l : List W} (hT : OutSt 24 F w w' (.slice A l.length c) l) (hh : h ≤ l.length) : ∃ A', sliced A 0 h c 1 = .slice A' h c ∧ OutSt 24 F w w' (.slice A' h c) (l.take h) := by
  obtain ⟨vals, ⟨h1, h2⟩, h3, h4⟩ := hT.out
  have hlen : (l.take h).length = h := by rw [List.length_take]; omega
  have hR : RowsF F w' (vals.take h) (l.take h) := by
    refine ⟨by rw [List.length_take, List.length_take]; omega, fun i hi => ?_⟩
    obtain ⟨u, hu, hx⟩ := h4 i (by omega)
    have e : (l.take h).getD i [] = l.getD i [] := by
      rw [List.getD_eq_getElem?_getD, List.getElem?_take, if_pos (by omega), List.getD_eq_getElem?_getD]
    exact ⟨u, by rw [List.getElem?_take, if_pos (by omega)]; exact hu, by rw [e]; exact hx⟩
  rcases h2 with ⟨e, h0⟩ | ⟨g, cap, cur, e, hb, hg, hn, hm, hs, ht⟩
  · obtain ⟨rfl, -, rfl⟩ := Value.slice.inj e
    obtain rfl : h = 0 := by omega
    exact ⟨none, rfl, ⟨hT.below, ⟨[], by rw [List.take_zero]; exact World.ownsRow_nil _ _ _ _, by rw [List.take_zero]; exact RowsF.nil _ _⟩, hT.fs⟩⟩
  · obtain ⟨rfl, -, rfl⟩ := Value.slice.inj e
    rcases Nat.eq_zero_or_pos c with h0 | h0
    · subst h0
      obtain rfl : h = 0 := by omega
      refine ⟨_, rfl, ⟨hT.below, ⟨[], ?_, by rw [List.take_zero]; exact RowsF.nil _ _⟩, hT.fs⟩⟩
      rw [List.take_zero]
      exact ⟨rfl, .inr ⟨g, 0, cur, rfl, hb, hg, Nat.le_refl _, hm, hs, by simp⟩⟩
    · refine ⟨some ⟨g, 0, none⟩, ?_, ⟨hT.below, ⟨vals.take h, ?_, hR⟩, hT.fs⟩⟩
      · unfold sliced
        rw [if_neg (by omega)]
        rfl
      · rw [hlen]
        refine ⟨by rw [List.length_take, h1]; omega, .inr ⟨g, c, cur, rfl, hb, hg, by omega, hm, hs, ?_⟩⟩
        rw [← ht, List.take_take, Nat.mul_one, Nat.mul_one, Nat.min_eq_left hh]
def WordsPostO (x : List W) (w : World) (e : Ending) (w' : World) : Prop := (∃ A c, e = .returned (.slice A x.length c) ∧ ∃ F, OutSt 24 F w w' (.slice A x.length c) x) ∧ Below w.heap.size w w'
def LawWordsPostO (x : List W) (w : World) (e : Ending) (w' : World) : Prop := (∃ A c, e = .returned (.slice A x.length c) ∧ ∃ F, OutSt 24 F w w' (.slice A x.length c) x) ∧ Below w.heap.size w w'
set_option maxRecDepth 100000 in
set_option maxHeartbeats 2000000 in
theorem wordsOf111_own (w : World) (v : Value) (l : List Int) (g most : Nat) (h : IntsAt w v l) (hg : 1 ≤ g ∧ g ≤ 400) (hm : most ≤ 1000) (hl : l.length ≤ 8000000) : Calls Try.prog 32 #[v, .int .i64 (g : Int), .int .i64 (most : Int)] w (WordsPostO (wordsOf g most l) w) := by
  obtain ⟨A, c, rfl, h1, h2, h3⟩ := h.open_
  have HI := Lib.hid h
  have hot := OutSt.nil 24 (Below.refl w.heap.size w)
  have HOT := Lib.hid hot
  have hg0 : (0 : Int) ≤ (g : Int) := Int.natCast_nonneg _
  have hm0 : (0 : Int) ≤ (most : Int) := Int.natCast_nonneg _
  have hm1 : (most : Int) ≤ 1000 := by omega
  have HW0 : Hid (wordsOf g most l = [] ++ wordsTo g most l.length l) := Lib.hid rfl
  unfold WordsPostO
  generalize hX : wordsOf g most l = X at *
  have hln : l.length + 0 ≤ 8000000 := by omega
  clear h h3 hot hX
  go_enter Try.func32, Try.ntmps32
  go_wp2_with fail
  go_loopw [0, 7] (fun sl so wr => ∃ (l2 : List Int) (f m : Nat), (∃ A c, sl = .slice A l2.length c ∧ c ≤ 9223372036854775807 ∧ Hid (IntsAt w (.slice A l2.length c) l2)) ∧ l2.length ≤ f ∧ l2.length + m ≤ 8000000 ∧ ∃ F A c, so = .slice A m c ∧ ∃ rows, Hid (OutSt 24 F w wr (.slice A m c) rows) ∧ Hid (rows.length = m) ∧ Hid (X = rows ++ wordsTo g most f l2)) (fun sl _ _ => match sl with | .slice _ n _ => n | _ => 0)
  case atStart => exact ⟨l, l.length, 0, ⟨_, _, rfl, h2, HI⟩, Nat.le_refl _, hln, _, none, 0, rfl, [], HOT, Lib.hid rfl, HW0⟩
  case round =>
    clear HOT HI HW0
    obtain ⟨l2, f, m, ⟨A1, c1, rfl, hc1, HI⟩, hf, hlm, F, A2, c2, rfl, rows, HS, HRL, HX⟩ := hrel
    cases l2 with
    | nil =>
      have HE : Hid (rows = X) := Lib.hid (by have := HX.out; rw [wordsTo_nil, List.append_nil] at this; exact this.symm)
      have HT : Hid (∃ A c, Ending.returned (.slice A2 m c2) = .returned (.slice A X.length c) ∧ ∃ F, OutSt 24 F w wr (.slice A X.length c) X) := Lib.hid (by
        have h1 := HS.out
        rw [← HE.out, HRL.out]
        exact ⟨_, _, rfl, _, h1⟩)
      have HB := Lib.hid HS.out.below
      have hlen : (([] : List Int).length : Int) = 0 := rfl
      go_wp2_with fail
      go_ret
      exact ⟨HT.out, HB.out⟩
    | cons x l3 =>
      cases f with
      | zero => simp at hf
      | succ f =>
        have hTN : x % ((most + 1 : Nat) : Int) = ((x % ((most + 1 : Nat) : Int)).toNat : Int) := (Int.toNat_of_nonneg (Int.emod_nonneg x (by omega))).symm
        have hTB := Int.emod_lt_of_pos x (show (0 : Int) < ((most + 1 : Nat) : Int) by omega)
        have HTN : Hid (∀ W, Calls Try.prog 13 #[.int .i64 x, .int .i64 ((most : Int) + 1)] W fun e w' => e = .returned (.int .i64 ((x % ((most + 1 : Nat) : Int)).toNat : Int)) ∧ w' = W) := Lib.hid fun W => by
          rw [← hTN, show (most : Int) + 1 = ((most + 1 : Nat) : Int) by omega]
          exact turn59_any W x (most + 1) (by omega)
        have hstep : wordsTo g most (f + 1) (x :: l3) = wordOf g (l3.take (min (x % ((most + 1 : Nat) : Int)).toNat l3.length)) :: wordsTo g most f (l3.drop (min (x % ((most + 1 : Nat) : Int)).toNat l3.length)) := rfl
        have HX1 : Hid (X = rows ++ (wordOf g (l3.take (min (x % ((most + 1 : Nat) : Int)).toNat l3.length)) :: wordsTo g most f (l3.drop (min (x % ((most + 1 : Nat) : Int)).toNat l3.length)))) := Lib.hid (by rw [← hstep]; exact HX.out)
        generalize htz : (x % ((most + 1 : Nat) : Int)).toNat = tz at *
        have htm : tz ≤ most := by omega
        clear htz hTN hTB hstep HX
        have hll : (x :: l3).length = l3.length + 1 := rfl
        rw [hll] at HI hlm hf
        obtain ⟨n, hn⟩ : ∃ n, n = min tz l3.length := ⟨_, rfl⟩
        rw [← hn] at HX1
        have hnl : n ≤ l3.length := by omega
        have HN : Hid ((n : Int) = min (tz : Int) (l3.length : Int)) := Lib.hid (by omega)
        clear hn
        have hI : IntsAt w (.slice A1 (x :: l3).length c1) (x :: l3) := HI.out
        obtain ⟨A9, c9, e9, hq1, hq2, hq3⟩ := hI.open_
        obtain ⟨rfl, -, rfl⟩ := Value.slice.inj e9
        obtain ⟨b, o, rfl, hcc⟩ := hq3 (by simp)
        have hx0 := hcc 0 (by simp)
        have hxc := (HS.out.below.cell (p := ⟨b, o + 0, none⟩) (World.block_lt_of_cell? w _ hx0)).trans hx0
        have hxc' : wr.cell? ⟨b, o, none⟩ = some (.int .i64 x) := hxc
        obtain ⟨A3, hs1, hi1⟩ := ints_sliced (k := 1) (h := 1 + n) hI (by omega) (by simp; omega)
        obtain ⟨A4, hs2, hi2⟩ := ints_sliced (k := 1 + n) (h := l3.length + 1) hI (by omega) (by simp)
        have e1 : ((x :: l3).take (1 + n)).drop 1 = l3.take n := by rw [Nat.add_comm]; rfl
        have e2 : ((x :: l3).take (l3.length + 1)).drop (1 + n) = l3.drop n := by
          rw [show l3.length + 1 = (x :: l3).length from rfl, List.take_length, Nat.add_comm]; rfl
        have e3 : l3.length + 1 - (1 + n) = (l3.drop n).length := by rw [List.length_drop]; omega
        have e4 : 1 + n - 1 = n := by omega
        rw [e1] at hi1
        rw [e2, e3] at hi2
        rw [e4] at hi1 hs1
        rw [e3] at hs2
        have hcl : l3.length + 1 ≤ c1 := hq1
        have HI2 := Lib.hid hi2
        have HWO : Hid (Calls Try.prog 54 #[.slice A3 n (c1 - 1), .int .i64 (g : Int)] wr (WordPost (wordOf g (l3.take n)) wr)) := Lib.hid (wordOf39_any wr _ (l3.take n) g (kept_ints.below hi1 HS.out.below) (by omega) (by rw [List.length_take]; omega))
        have HFW := Lib.hid (fits_wordOf hg (l3.take n))
        have HL4 : Hid ((l3.drop n).length ≤ l3.length) := Lib.hid (by rw [List.length_drop]; omega)
        unfold WordPost at HWO
        generalize l3.take n = l5 at *
        generalize l3.drop n = l4 at *
        generalize wordOf g l5 = wd at *
        have hn0 : (0 : Int) ≤ (n : Int) := Int.natCast_nonneg _
        have hnI : (n : Int) ≤ (l3.length : Int) := by omega
        have hlI : (l3.length : Int) ≤ 8000000 := by omega
        have htI : (tz : Int) ≤ 1000 := by omega
        have ht0 : (0 : Int) ≤ (tz : Int) := Int.natCast_nonneg _
        clear hcc hx0 hxc hi1 hi2 e1 e2 e4 hI e9 hq3 hll HI
        go_wp2_with (first
          | (go_at_call 13; (refine (HTN.out _).mono ?_); rintro e w1 ⟨rfl, rfl⟩)
          | ((with_reducible refine wpList_sel 21 ?_); refine wpList_val rfl (r_min2 (.tmp 17) (.tmp 20) _ _ (n : Int) rfl rfl rfl (by have := HN.out; omega)) ?_)
          | ((with_reducible refine wpList_sel 26 ?_); refine wpList_val rfl (r_slice_lohi (.tmp 23) (.const (.int .i64 1)) (.tmp 25) _ (l3.length + 1) c1 1 (1 + n) rfl rfl rfl rfl (by omega) (by omega)) ?_; rw [hs1])
          | (go_at_call 54; (refine HWO.out.mono ?_); rintro e w2 ⟨A5, c5, rfl, ho, hb⟩
             obtain ⟨A8, c8, w8, hr8, hS8⟩ := (HS.out.with_row hb ho).done (by decide) Try.underlying25 info25p HFW.out (by rw [HRL.out]; omega)
             rw [HRL.out] at hr8 hS8
             have HR8 := Lib.hid hr8
             have HS8 := Lib.hid hS8
             clear hr8 hS8 ho hb)
          | ((with_reducible refine wpList_sel 30 ?_); refine wpList_val rfl (r_app (.tmp 22) (.tmp 29) 25 rfl rfl rfl HR8.out) ?_)
          | ((with_reducible refine wpList_sel 34 ?_); refine wpList_val rfl (r_slice_lo (.tmp 31) (.tmp 33) _ (l3.length + 1) c1 (1 + n) rfl rfl rfl (by omega)) ?_; rw [show sliced (some ⟨b, o, none⟩) (1 + n) (l3.length + 1) c1 1 = _ from hs2]))
        go_roundw
        case rel => exact ⟨l4, f, m + 1, ⟨_, _, rfl, by omega, HI2⟩, by have := HL4.out; omega, by have := HL4.out; omega, _, _, _, rfl, rows ++ [wd], HS8, Lib.hid (by rw [List.length_append, HRL.out]; rfl), Lib.hid (by rw [HX1.out, List.append_assoc]; rfl)⟩
        case measure => have := HL4.out; simp; omega
end Go.Proofs
namespace Go.Proofs
open Go.RowKit Go.Shelf Go.Lib Go.Sort Go.Proofs.Ct Go.Proofs.Tz Go.Maps
theorem mem_wordsT {g most : Nat} (hg : 1 ≤ g) : ∀ (f : Nat) (l : List Int), ∀ w ∈ wordsTo g most f l, w.length ≤ most ∧ LOk g w
  | 0, _, w, h => by simp [wordsTo] at h
  | _ + 1, [], w, h => by simp [wordsTo] at h
  | f + 1, x :: l, w, h => by
    rw [wordsTo] at h
    rcases List.mem_cons.1 h with rfl | h
    · refine ⟨?_, fun y hy => ?_⟩
      · rw [length_wordOf, List.length_take]
        have := Int.emod_lt_of_pos x (show (0 : Int) < ((most + 1 : Nat) : Int) by omega)
        have := Int.emod_nonneg x (show ((most + 1 : Nat) : Int) ≠ 0 by omega)
        omega
      · unfold wordOf at hy
        obtain ⟨z, -, rfl⟩ := List.mem_map.1 hy
        have h1 := Int.emod_lt_of_pos z (show (0 : Int) < ((2 * g : Nat) : Int) by omega)
        have h2 := Int.emod_nonneg z (show ((2 * g : Nat) : Int) ≠ 0 by omega)
        exact letter_range (by omega)
    · exact mem_wordsT hg f _ w h
set_option maxRecDepth 100000 in
set_option maxHeartbeats 1000000 in
theorem words15_own (w : World) (v : Value) (l : List Int) (g : Nat) (h : IntsAt w v l) (hg : 1 ≤ g ∧ g ≤ 400) (hl : l.length ≤ 8000000) : Calls Try.prog 15 #[v, .int .i64 (g : Int)] w (LawWordsPostO (lawWords g 6 l) w) := by
  have HC : Hid (Calls Try.prog 32 #[v, .int .i64 (g : Int), .int .i64 12] w (WordsPostO (wordsOf g 12 l) w)) := Lib.hid (wordsOf111_own w v l g 12 h hg (by omega) hl)
  have hwl := wordsTo_length g 12 l.length l
  have hwl2 : (wordsOf g 12 l).length ≤ 8000000 := Nat.le_trans hwl hl
  obtain ⟨A, c, rfl, h1, h2, -⟩ := h.open_
  clear h hwl
  unfold LawWordsPostO lawWords
  unfold WordsPostO at HC
  generalize wordsOf g 12 l = X at *
  have hxl : (X.length : Int) ≤ 8000000 := by omega
  have hx0 : (0 : Int) ≤ (X.length : Int) := Int.natCast_nonneg _
  obtain ⟨n, hn⟩ : ∃ n, n = min X.length 6 := ⟨_, rfl⟩
  have hnx : n ≤ X.length := by omega
  have HN : Hid ((n : Int) = min (X.length : Int) 6) := Lib.hid (by omega)
  have HT : Hid ((X.take 6) = X.take n ∧ (X.take n).length = n) := Lib.hid (by
    rw [List.length_take]
    refine ⟨?_, by omega⟩
    rcases Nat.lt_or_ge X.length 6 with h | h
    · rw [List.take_of_length_le (by omega), List.take_of_length_le (by omega)]
    · rw [show n = 6 by omega])
  rw [HT.out.1]
  clear hn
  go_enter Try.func15, Try.ntmps15
  go_wp2_with (first
    | (go_at_call 32; (refine HC.out.mono ?_); rintro e w2 ⟨⟨A5, c5, rfl, F, ht⟩, hb⟩
       obtain ⟨A6, hs6, ht6⟩ := outSt_sliced ht hnx
       obtain ⟨A7, c7, e7, hc7, -, -⟩ := LAt.open_ ht.out.tab
       obtain ⟨rfl, -, rfl⟩ := Value.slice.inj e7
       have HE : Hid ((∃ A c, Ending.returned (.slice A6 n c5) = .returned (.slice A (X.take n).length c) ∧ ∃ F, OutSt 24 F w w2 (.slice A (X.take n).length c) (X.take n)) ∧ Below w.heap.size w w2) := Lib.hid ⟨⟨A6, c5, by rw [HT.out.2], F, by rw [HT.out.2]; exact ht6⟩, hb⟩
       clear ht hb ht6 e7)
    | ((with_reducible refine wpList_sel 12 ?_); refine wpList_val rfl (r_min2 (.tmp 11) (.const (.int .i64 6)) _ _ (n : Int) rfl rfl rfl (by have := HN.out; omega)) ?_)
    | ((with_reducible refine wpList_sel 13 ?_); refine wpList_val rfl (r_slice_hi31 (.tmp 9) (.tmp 12) _ X.length c5 n rfl rfl rfl (by omega)) ?_; rw [hs6]))
  go_ret
  exact HE.out
end Go.Proofs
namespace Go.Proofs
open Go.RowKit Go.Shelf Go.Lib Go.Sort Go.Proofs.Ct Go.Proofs.Tz Go.Maps
theorem info40p : ∃ i, Try.prog.info? 40 = some i ∧ i.zero = some (.slice none 0 0) ∧ i.size = 1 ∧ i.bytes = 24 := by
  have h : (Try.prog.info? 40).map (fun i => (i.zero, i.size, i.bytes)) = some (some (.slice none 0 0), 1, 24) := by kernel_rfl
  cases hq : Try.prog.info? 40 with
  | none => simp [hq] at h
  | some i => simp [hq] at h; exact ⟨i, rfl, h⟩
/-- permutations in a list of the call's own; what they read lies below b0 or is of type 3 -/
structure MS (b0 : Nat) (FM : Nat → Prop) (v : Value) (M : List (List Nat)) (W : World) : Prop where
  out : OwnT 40 b0 FM W v (M.map nz)
  fs : ∀ k, FM k → k < W.heap.size ∧ (k < b0 ∨ ∃ C, W.heap[k]? = some (.cells C 3 (0, 0)))
section
variable {b0 : Nat} {FM : Nat → Prop} {v : Value} {M : List (List Nat)} {W W' : World}
theorem MS.start {w : World} {A B : Option Addr} {d c e : Nat} {a b : List Nat} (ha : IntsAt w (.slice A d c) (nz a)) (hb : IntsAt w (.slice B d e) (nz b)) : MS w.heap.size (fun k => k < w.heap.size) (.slice (some ⟨w.heap.size, 0, none⟩) 2 2) [a, b] (w.alloc (.cells #[.slice A d c, .slice B d e] 40)) := by
  have hbl : Below w.heap.size w (w.alloc (.cells #[.slice A d c, .slice B d e] 40)) := (Below.refl _ _).alloc (Nat.le_refl _) _
  refine ⟨⟨[.slice A d c, .slice B d e], ⟨rfl, .inr ⟨w.heap.size, 2, _, rfl, Nat.le_refl _, heap_alloc_new w _, Nat.le_refl _, by simp [maxLen], rfl, rfl⟩⟩, rfl, fun i hi => ?_⟩, fun k hk => ⟨Nat.lt_of_lt_of_le hk hbl.size, .inl hk⟩⟩
  have : i = 0 ∨ i = 1 := by simp at hi; omega
  rcases this with rfl | rfl
  · exact ⟨_, rfl, (IntsF.of_at ha).keep (Ag.below hbl fun k hk => hk)⟩
  · exact ⟨_, rfl, (IntsF.of_at hb).keep (Ag.below hbl fun k hk => hk)⟩
theorem MS.nil (b0 : Nat) (W : World) : MS b0 (fun _ => False) (.slice none 0 0) [] W := ⟨⟨[], World.ownsRow_nil _ _ _ _, RowsF.nil _ _⟩, fun _k hk => hk.elim⟩
theorem MS.keep (h : MS b0 FM v M W) (hs : W.heap.size ≤ W'.heap.size) (h0 : ∀ k, k < b0 → k < W.heap.size → W'.heap[k]? = W.heap[k]?) (h3 : ∀ k C, FM k → W.heap[k]? = some (.cells C 3 (0, 0)) → W'.heap[k]? = W.heap[k]?) (hm : ∀ r C, W.heap[r]? = some (.cells C 40 (0, 0)) → v.ownBlock = some r → W'.heap[r]? = W.heap[r]?) : MS b0 FM v M W' := by
  have hk : ∀ k, FM k → W'.heap[k]? = W.heap[k]? := fun k hk => by
    obtain ⟨h1, h2 | ⟨C, h2⟩⟩ := h.fs k hk
    · exact h0 k h2 h1
    · exact h3 k C hk h2
  refine ⟨h.out.keep (fun r hr => ?_) hk fun _ h => h, fun k hk' => ?_⟩
  · obtain ⟨-, C, hC⟩ := h.out.block r hr
    exact hm r C hC hr
  · obtain ⟨h1, h2⟩ := h.fs k hk'
    exact ⟨Nat.lt_of_lt_of_le h1 hs, h2.imp id fun ⟨C, hC⟩ => ⟨C, (hk k hk').trans hC⟩⟩
theorem MS.below' (h : MS b0 FM v M W) (hb : Below W.heap.size W W') : MS b0 FM v M W' :=
  h.keep hb.size (fun k _ h1 => hb.block k h1) (fun k _ _ hC => hb.block k (Array.getElem?_eq_some_iff.1 hC).1) fun r _ hC _ => hb.block r (Array.getElem?_eq_some_iff.1 hC).1
theorem MS.tab (h : MS b0 FM v M W) : Tab W v (M.map nz) := OwnT.tab h.out
/-- a permutation joins -/
theorem MS.push {A : Option Addr} {d c base : Nat} {p : List Nat} (h : MS b0 FM v M W) (hu : OwnI base W (.slice A d c) (nz p)) (hf : Fits (nz p)) (hl : M.length ≤ 1000) (hb : b0 ≤ W.heap.size) :
    ∃ A' c' W', (Builtin.append_ #[42, 42] 42 #[v, .slice (some ⟨W.heap.size, 0, none⟩) 1 1]).run Try.prog (W.alloc (.cells #[.slice A d c] 40)) = .ok (.slice A' (M.length + 1) c') W' ∧ MS b0 (fun k => FM k ∨ (Value.slice A d c).ownBlock = some k) (.slice A' (M.length + 1) c') (M ++ [p]) W' ∧ W.grownBy W' v.ownBlock := by
  have hub := h.out.block
  have hrb := owns_block hu
  have hF2 : ∀ r, (FM r ∨ (Value.slice A d c).ownBlock = some r) → r < W.heap.size ∧ v.ownBlock ≠ some r := fun r hr => by
    rcases hr with hr | hr
    · obtain ⟨h1, h2⟩ := h.fs r hr
      refine ⟨h1, fun e => ?_⟩
      obtain ⟨h3, D, hD⟩ := hub r e
      rcases h2 with h2 | ⟨C, hC⟩
      · omega
      · exact (ne_type hC hD (by decide)) rfl
    · obtain ⟨h1, C, hC⟩ := hrb r hr
      refine ⟨(Array.getElem?_eq_some_iff.1 hC).1, fun e => ?_⟩
      obtain ⟨-, D, hD⟩ := hub r e
      exact (ne_type hC hD (by decide)) rfl
  have hml : (M.map nz).length = M.length := List.length_map _
  obtain ⟨A', c', W', hr, ho', hg, -⟩ := push_row (t := 42) (ty := 42) Try.underlying42 info40p W b0 (fun r => FM r ∨ (Value.slice A d c).ownBlock = some r) v (M.map nz) (h.out.keep (fun _ _ => rfl) (Ag.refl _ _) (fun r hr => .inl hr)) A d c (nz p) ((IntsF.of_own hu hf).mono fun r hr => .inr hr) hF2 (by omega) hb
  rw [hml] at hr ho'
  refine ⟨A', c', W', hr, ⟨by rw [List.map_append]; exact ho', fun k hk => ?_⟩, hg⟩
  obtain ⟨h1, h2⟩ := hF2 k hk
  refine ⟨Nat.lt_of_lt_of_le h1 hg.size, ?_⟩
  rcases hk with hk | hk
  · rcases (h.fs k hk).2 with h3 | ⟨C, hC⟩
    · exact .inl h3
    · exact .inr ⟨C, grown_cells hg hC h2⟩
  · obtain ⟨-, C, hC⟩ := hrb k hk
    exact .inr ⟨C, grown_cells hg hC h2⟩
/-- a list of another type grows beside the presentation -/
theorem PS.other {B pb : Nat} {X F : Nat → Prop} {wa : World} {nb : Int} {vb u : Value} {R : List (List Int)} {row : Option Nat} (h : PS B pb X F wa nb vb u R W) (hg : W.grownBy W' row) (hr : ∀ r, row = some r → B ≤ r ∧ ∃ C, W.heap[r]? = some (.cells C 40 (0, 0))) : PS B pb X F wa nb vb u R W' := by
  have hub := h.out.block
  have hk : ∀ (k : Nat) (C : Array Value) (t : TypeId), W.heap[k]? = some (Obj.cells C t (0, 0)) → t ≠ 40 → W'.heap[k]? = W.heap[k]? := fun k C t hC ht => hg.block k (Array.getElem?_eq_some_iff.1 hC).1 fun e => by
    obtain ⟨-, D, hD⟩ := hr k e.symm
    exact (ne_type hC hD ht) rfl
  refine ⟨(hk _ _ _ h.box (by decide)).trans h.box, h.lo, h.lt, h.below.grown hg h.bnd (fun r e => (hr r e).1), ⟨Nat.le_trans h.ag.size hg.size, fun q o ho hw hx => ?_⟩, h.out.keep (fun r e => ?_) (fun k hk' => ?_) (fun _ h => h), fun k hk' => ?_, h.ob⟩
  · have h1 := h.ag.same q o ho hw hx
    refine (hg.block q (Array.getElem?_eq_some_iff.1 h1).1 fun e => ?_).trans h1
    obtain ⟨-, D, hD⟩ := hr q e.symm
    rw [hD] at h1
    obtain ⟨C, t, fr, rfl, ht⟩ := hw
    injection h1 with h1
    injection h1 with _ h2 _
    subst h2
    revert ht
    decide
  · obtain ⟨-, C, hC⟩ := hub r e
    exact hk r C 24 hC (by decide)
  · obtain ⟨-, -, C, hC⟩ := h.fs k hk'
    exact hk k C 3 hC (by decide)
  · obtain ⟨h1, h2, C, hC⟩ := h.fs k hk'
    exact ⟨h1, Nat.lt_of_lt_of_le h2 hg.size, C, (hk k C 3 hC (by decide)).trans hC⟩
/-- the presentation anchored at a later world: its own list may still change -/
theorem PS.anchor {B B' pb : Nat} {X F : Nat → Prop} {wa : World} {nb : Int} {vb u : Value} {R : List (List Int)} (h : PS B pb X F wa nb vb u R W) (hB : B' ≤ B) : PS B' pb (fun r => u.ownBlock = some r) F W nb vb u R W :=
  ⟨h.box, by have := h.lo; omega, (Array.getElem?_eq_some_iff.1 h.box).1, Below.refl _ _, AgX.refl _ _, let ⟨vals, h1, h2⟩ := h.out; ⟨vals, owns_low h1 hB, h2⟩, fun k hk => let ⟨h1, h2, h3⟩ := h.fs k hk; ⟨by omega, h2, h3⟩, fun r hr => .inl hr⟩
end
end Go.Proofs
namespace Go.Proofs
open Go.RowKit Go.Shelf Go.Lib Go.Sort Go.Proofs.Ct Go.Proofs.Tz Go.Maps
theorem bs24e (w : World) : (Instr.buildSlice 24 0 #[]).run Try.prog w = .ok (.slice (some ⟨w.heap.size, 0, none⟩) 0 0) (w.alloc (.cells #[] 3)) := by kernel_rfl
theorem r_bs24e {o : Oper} {a : Act} {w : World} (ho : o.op = .buildSlice 24 0 #[]) : (execOp a.eval o).run Try.prog w = .ok (.value (.slice (some ⟨w.heap.size, 0, none⟩) 0 0)) (w.alloc (.cells #[] 3)) := by
  have hb := bs24e w
  unfold execOp
  simp only [ho, List.map_toArray, List.map_nil, Sem.run_bind, hb, Result.andThen_ok]
  rfl
theorem psw_empty {F : Nat → Prop} {wa W : World} {b : Nat} (hb : wa.heap.size ≤ b) (hW : W.heap[b]? = some (.cells #[] 3 (0, 0))) (hF : ¬ F b) : PSw F wa (.slice (some ⟨b, 0, none⟩) 0 0) [] W :=
  ⟨⟨rfl, .inr ⟨b, 0, _, rfl, hb, hW, Nat.le_refl _, by simp [maxLen], rfl, rfl⟩⟩, fun r hr => by
    cases hr
    exact hF⟩
theorem idx25 (b o : Nat) (n c k : Nat) (hk : k < n) (w : World) : (Instr.indexAt 25 (.slice (some ⟨b, o, none⟩) n c) (.int .i64 (k : Int))).run Try.prog w = .ok (.pointer (some ⟨b, o + k, none⟩)) w :=
  idx_offs Try.underlying25 Try.sizeOf24 b o n c k hk w
theorem belx_grown {X : Nat → Prop} {a b c : World} {row : Option Nat} (h : BelX X a b) (hg : b.grownBy c row) (hr : ∀ r, row = some r → X r ∨ a.heap.size ≤ r) : BelX X a c :=
  ⟨hg.os.trans h.os, hg.tape.trans h.tape, hg.output.trans h.output, Nat.le_trans h.size hg.size, fun k hk hx => (hg.block k (Nat.lt_of_lt_of_le hk h.size) fun e => by
    rcases hr k e.symm with h1 | h1
    · exact hx h1
    · omega).trans (h.block k hk hx)⟩
end Go.Proofs
