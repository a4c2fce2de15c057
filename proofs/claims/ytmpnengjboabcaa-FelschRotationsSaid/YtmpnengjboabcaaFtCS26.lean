/- The walk of FelschKnown; Representatives lead to their cosets, plainly; The presentations of the statements on Felsch's strategy; which tables the three strategies have; How often a word stands in a list (the law of FelschRotations); The law of footprints where one operation takes up blocks that were there ahead of the region; A list of words that grows in a drawn region: what the law of FelschRotations builds. -/
import Derived.Test.YtmpnengjboabcaaFtCS21
import Derived.Test.YtmpnengjboabcaaFtCS25
import Derived.Test.YtmpnengjboabcaaFtCS13
import Derived.Test.YtmpnengjboabcaaFtCS7
import Derived.Test.YtmpnengjboabcaaFtCS1
import Derived.Test.YtmpnengjboabcaaFtCS24
import Derived.Test.YtmpnengjboabcaaFtCS14
import Derived.Test.YtmpnengjboabcaaFtCS15
import Derived.Test.YtmpnengjboabcaaFtCS12
namespace Go.Proofs
open Go.RowKit Go.Shelf Go.Proofs.Ct Go.Maps
set_option maxRecDepth 100000 in
theorem small89_any (w : World) : Calls Try.prog 89 #[] w (PresAt 2 smallT w) := by
  have hg : ∀ i o, [Obj.cells zero40 40, .cells (ints [1, 1]).toArray 3, .cells (ints [2, 2, 2]).toArray 3, .cells (ints [1, 2, 1, 2]).toArray 3, .cells #[.slice (some ⟨w.heap.size + 1, 0, none⟩) 2 2, .slice (some ⟨w.heap.size + 1 + 1, 0, none⟩) 3 3, .slice (some ⟨w.heap.size + 1 + 1 + 1, 0, none⟩) 4 4] 25][i]? = some o →
      (((((w.alloc (.cells zero40 40)).alloc (.cells (ints [1, 1]).toArray 3)).alloc (.cells (ints [2, 2, 2]).toArray 3)).alloc (.cells (ints [1, 2, 1, 2]).toArray 3)).alloc (.cells #[.slice (some ⟨w.heap.size + 1, 0, none⟩) 2 2, .slice (some ⟨w.heap.size + 1 + 1, 0, none⟩) 3 3, .slice (some ⟨w.heap.size + 1 + 1 + 1, 0, none⟩) 4 4] 25)).heap[w.heap.size + i]? = some o := fun i o h => allocs_get _ w i o h
  have hb : Below w.heap.size w (((((w.alloc (.cells zero40 40)).alloc (.cells (ints [1, 1]).toArray 3)).alloc (.cells (ints [2, 2, 2]).toArray 3)).alloc (.cells (ints [1, 2, 1, 2]).toArray 3)).alloc (.cells #[.slice (some ⟨w.heap.size + 1, 0, none⟩) 2 2, .slice (some ⟨w.heap.size + 1 + 1, 0, none⟩) 3 3, .slice (some ⟨w.heap.size + 1 + 1 + 1, 0, none⟩) 4 4] 25)) :=
    allocs_below [Obj.cells zero40 40, .cells (ints [1, 1]).toArray 3, .cells (ints [2, 2, 2]).toArray 3, .cells (ints [1, 2, 1, 2]).toArray 3, .cells #[.slice (some ⟨w.heap.size + 1, 0, none⟩) 2 2, .slice (some ⟨w.heap.size + 1 + 1, 0, none⟩) 3 3, .slice (some ⟨w.heap.size + 1 + 1 + 1, 0, none⟩) 4 4] 25] w w.heap.size (Nat.le_refl _)
  have HG := Lib.hid hg
  have HB := Lib.hid hb
  have HX := Lib.hid (hg 0 _ rfl)
  clear hg hb
  go_enter Try.func89, Try.ntmps89
  go_wp2_with (first
    | ((with_reducible refine wpList_sel 0 ?_); refine wpList_val rfl (r_alloc40 rfl) ?_)
    | ((with_reducible refine wpList_sel 5 ?_); refine wpList_val rfl (r_build40s _ (.tmp 4) 2 _ _ _ rfl rfl rfl) ?_; refine wpList_skip rfl (r_store40 (.tmp 0) (.tmp 5) rfl w.heap.size zero40 _ rfl rfl HX.out rfl rfl (one40 _ _ _ _)) ?_))
  try simp only [Exit.inBlock, Exit.then]
  refine bodyPost_ret (results_40 (p := 0) rfl _ _ w.heap.size _ rfl (setRow_heap _ _ _ _ _ _ HX.out) rfl) rfl ⟨⟨_, _, rfl, ?_⟩, below_setRow HB.out (Nat.le_refl _) _⟩
  refine tab_blk ((setRow_other _ _ _ _ (by omega)).trans (HG.out 4 _ rfl)) rfl rfl (by simp) fun i hi => ?_
  have hi3 : i = 0 ∨ i = 1 ∨ i = 2 := by simp [smallT] at hi; omega
  rcases hi3 with rfl | rfl | rfl
  · exact ints_blk ((setRow_other _ _ _ _ (by omega)).trans (HG.out 1 _ rfl)) (fits_lit (by decide)) rfl (by omega)
  · exact ints_blk ((setRow_other _ _ _ _ (by omega)).trans (HG.out 2 _ rfl)) (fits_lit (by decide)) rfl (by omega)
  · exact ints_blk ((setRow_other _ _ _ _ (by omega)).trans (HG.out 3 _ rfl)) (fits_lit (by decide)) rfl (by omega)
theorem felschK (g : Int) (rels sub : List W) (limit : Int) (T : Tb) (a b c : Int) (h : felschE g rels sub limit = (T, (a, b), c)) (h1 : (sub.all fun x => decide (x.length ≤ 100000)) = true) (h2 : sub.length ≤ 1000000) (h3 : (rels.all fun x => decide (x.length ≤ 100)) = true) (hl : limit ≤ 1000) (W : World) (vr vs : Value) (hr : Tab W vr rels) (hs : Tab W vs sub) :
    Calls Try.prog 85 #[.agg #[.int .i64 g, vr], vs, .int .i64 limit] W fun e w' => (∃ u, e = .returned (.tuple #[u, .agg #[.int .i64 a, .int .i64 b, .int .i64 0], .int .i64 c]) ∧ Tab w' u T) ∧ Below W.heap.size W w' :=
  (felsch85_B W vr vs g rels sub limit hr hs (short_of h3) (short_of h1) h2 (.inl hl)).mono fun e w' (⟨⟨u, h5, h6⟩, h7⟩ : FelschPost g rels sub limit W e w') => by
    rw [h] at h5 h6
    exact ⟨⟨u, h5, h6.at_⟩, h7⟩
theorem lookK (g : Int) (rels sub : List W) (limit : Int) (T : Tb) (a b l c : Int) (h : lookE g rels sub limit = (T, (a, b, l), c)) (h1 : (sub.all fun x => decide (x.length ≤ 100000)) = true) (h2 : sub.length ≤ 1000000) (h3 : (rels.all fun x => decide (x.length ≤ 100000)) = true) (hl : limit ≤ 1000) (W : World) (vr vs : Value) (hr : Tab W vr rels) (hs : Tab W vs sub) :
    Calls Try.prog 87 #[.agg #[.int .i64 g, vr], vs, .int .i64 limit] W fun e w' => (∃ u, e = .returned (.tuple #[u, .agg #[.int .i64 a, .int .i64 b, .int .i64 l], .int .i64 c]) ∧ Tab w' u T) ∧ Below W.heap.size W w' :=
  (look87_B W vr vs g rels sub limit hr hs (short_of h3) (short_of h1) h2 (.inl hl)).mono fun e w' (⟨⟨u, h5, h6⟩, h7⟩ : LookPost g rels sub limit W e w') => by
    rw [h] at h5 h6
    exact ⟨⟨u, h5, h6.at_⟩, h7⟩
theorem wordsK (g : Int) (rels : List W) (x : Int) (T : List W) (c : Int) (h : wordsE g rels x = (T, c)) (h3 : (rels.all fun x => decide (x.length ≤ 100)) = true) (hx1 : -9223372036854775808 ≤ x) (hx2 : x ≤ 9223372036854775807) (W : World) (vr : Value) (hr : Tab W vr rels) :
    Calls Try.prog 80 #[.agg #[.int .i64 g, vr], .int .i64 x] W fun e w' => (∃ u, e = .returned (.tuple #[u, .int .i64 c]) ∧ Tab w' u T) ∧ Below W.heap.size W w' :=
  (words80_any W vr rels g x hr hx1 hx2 (short_of h3)).mono fun e w' (⟨⟨A, k, h5, h6⟩, h7⟩ : WordsEPost g rels x W e w') => by
    rw [h] at h5 h6
    exact ⟨⟨_, h5, h6.at_⟩, h7⟩
set_option maxRecDepth 100000 in
set_option maxHeartbeats 4000000 in
theorem felschKnown19_any (w : World) : Calls Try.prog 19 #[] w fun e w' => e = .returned (.bool true) ∧ Below w.heap.size w w' := by
  have HWa := Lib.hid (wordsK 2 smallT 1 [[1, 1], [1, 2, 1, 2]] 0 (by decide +kernel) (by decide) (by decide) (by decide))
  have HWb := Lib.hid (wordsK 2 smallT (-2) [[-2, -2, -2], [-2, -1, -2, -1]] 0 (by decide +kernel) (by decide) (by decide) (by decide))
  have HWc := Lib.hid (wordsK 2 smallT 3 [] 2 (by decide +kernel) (by decide) (by decide) (by decide))
  have HF1 := Lib.hid (felschK 2 smallT [[1]] 100 [[0, 0, 1, 2], [2, 2, 2, 0], [1, 1, 0, 1]] 3 3 0 (by decide +kernel) (by decide) (by decide) (by decide) (by decide))
  have HK1 := Lib.hid (lookK 2 smallT [[1]] 100 [[0, 0, 1, 2], [2, 2, 2, 0], [1, 1, 0, 1]] 3 3 0 0 (by decide +kernel) (by decide) (by decide) (by decide) (by decide))
  have HF2 := Lib.hid (felschK 1 [[1, 1, 1]] [] 2 [] 0 0 12 (by decide +kernel) (by decide) (by decide) (by decide) (by decide))
  have HK2 := Lib.hid (lookK 1 [] [] 3 [] 0 0 0 12 (by decide +kernel) (by decide) (by decide) (by decide) (by decide))
  have HK3 := Lib.hid (lookK 1 [[1, 1, 1], [1, 1]] [] 3 [[0, 0]] 3 3 0 0 (by decide +kernel) (by decide) (by decide) (by decide) (by decide))
  have HPL : Hid (∀ (W : World) (v : Value) (l : List (List Int)), l.length ≤ 1000000 → Tab W v l → Calls Try.prog 82 #[v] W fun e w' => (∃ u, e = .returned u ∧ Tab w' u l) ∧ Below W.heap.size W w') := Lib.hid fun W v l hl h => (plain82_any W v l h hl).mono fun e w' ⟨⟨A, c, h1, h2⟩, h3⟩ => ⟨⟨_, h1, h2⟩, h3⟩
  have HSM : Hid (∀ (W : World) (a b : Value) (T : Tb), Tab W a T → Tab W b T → Calls Try.prog 42 #[a, b] W fun e w'' => e = .returned (.bool true) ∧ Below W.heap.size W w'') := Lib.hid fun W a b T h1 h2 => (same18_any W a b _ _ h1 h2).mono fun e w'' ⟨h, q, h'⟩ => ⟨h.trans (ret_bool (decide_eq_true rfl)), h' ▸ below_drewN (Below.refl _ _) q⟩
  go_enter Try.func19, Try.ntmps19
  have HB0 := Lib.hid (Below.refl w.heap.size w)
  have ht := lit3 (w) [0, 0, 1, 2] [2, 2, 2, 0] [1, 1, 0, 1] (fits_lit (by decide)) (fits_lit (by decide)) (fits_lit (by decide)) rfl rfl rfl (by decide) (e := 24)
  have hx := lit3_below (w) [0, 0, 1, 2] [2, 2, 2, 0] [1, 1, 0, 1] 4 4 4 (e := 24)
  have HBa := Lib.hid (bl3 HB0.out hx)
  have HTa := Lib.hid ht
  clear ht hx
  go_wp2_with fail
  refine (small89_any _).mono ?_
  rintro e v1 ⟨⟨A_p1, c_p1, rfl, ht⟩, hb⟩
  have HL1 := Lib.hid (kept_tab.below HTa.out hb)
  clear HTa
  have HB_v1 := Lib.hid (bl3 HBa.out hb)
  clear HBa
  clear hb
  have HP1 := Lib.hid ht
  clear ht
  go_wp2_with fail
  refine (HWa.out _ _ HP1.out).mono ?_
  rintro e v2 ⟨⟨u, rfl, ht⟩, hb⟩
  clear HP1
  have HL2 := Lib.hid (kept_tab.below HL1.out hb)
  clear HL1
  have HB_v2 := Lib.hid (bl3 HB_v1.out hb)
  clear HB_v1
  obtain ⟨A_v2, c_v2, rfl⟩ := Tab.form ht
  have HT_v2 := Lib.hid ht
  clear ht
  clear hb
  go_wp2_with fail
  refine (small89_any _).mono ?_
  rintro e v3 ⟨⟨A_p3, c_p3, rfl, ht⟩, hb⟩
  have HL3 := Lib.hid (kept_tab.below HL2.out hb)
  clear HL2
  have HL4 := Lib.hid (kept_tab.below HT_v2.out hb)
  clear HT_v2
  have HB_v3 := Lib.hid (bl3 HB_v2.out hb)
  clear HB_v2
  clear hb
  have HP3 := Lib.hid ht
  clear ht
  go_wp2_with fail
  refine (HWb.out _ _ HP3.out).mono ?_
  rintro e v4 ⟨⟨u, rfl, ht⟩, hb⟩
  clear HP3
  have HL5 := Lib.hid (kept_tab.below HL3.out hb)
  clear HL3
  have HL6 := Lib.hid (kept_tab.below HL4.out hb)
  clear HL4
  have HB_v4 := Lib.hid (bl3 HB_v3.out hb)
  clear HB_v3
  obtain ⟨A_v4, c_v4, rfl⟩ := Tab.form ht
  have HT_v4 := Lib.hid ht
  clear ht
  clear hb
  go_wp2_with fail
  refine (small89_any _).mono ?_
  rintro e v5 ⟨⟨A_p5, c_p5, rfl, ht⟩, hb⟩
  have HL7 := Lib.hid (kept_tab.below HL5.out hb)
  clear HL5
  have HL8 := Lib.hid (kept_tab.below HL6.out hb)
  clear HL6
  have HL9 := Lib.hid (kept_tab.below HT_v4.out hb)
  clear HT_v4
  have HB_v5 := Lib.hid (bl3 HB_v4.out hb)
  clear HB_v4
  clear hb
  have HP5 := Lib.hid ht
  clear ht
  go_wp2_with fail
  refine (HWc.out _ _ HP5.out).mono ?_
  rintro e v6 ⟨⟨u, rfl, ht⟩, hb⟩
  clear HP5
  have HL10 := Lib.hid (kept_tab.below HL7.out hb)
  clear HL7
  have HL11 := Lib.hid (kept_tab.below HL8.out hb)
  clear HL8
  have HL12 := Lib.hid (kept_tab.below HL9.out hb)
  clear HL9
  have HB_v6 := Lib.hid (bl3 HB_v5.out hb)
  clear HB_v5
  obtain ⟨A_v6, c_v6, rfl⟩ := Tab.form ht
  have HT_v6 := Lib.hid ht
  clear ht
  clear hb
  go_wp2_with fail
  refine (HPL.out _ _ _ (by decide) HL11.out).mono ?_
  rintro e v7 ⟨⟨u, rfl, ht⟩, hb⟩
  clear HL11
  have HL13 := Lib.hid (kept_tab.below HL10.out hb)
  clear HL10
  have HL14 := Lib.hid (kept_tab.below HL12.out hb)
  clear HL12
  have HL15 := Lib.hid (kept_tab.below HT_v6.out hb)
  clear HT_v6
  have HB_v7 := Lib.hid (bl3 HB_v6.out hb)
  clear HB_v6
  obtain ⟨A_v7, c_v7, rfl⟩ := Tab.form ht
  have HT_v7 := Lib.hid ht
  clear ht
  clear hb
  have ht := lit2 (v7) [1, 1] [1, 2, 1, 2] (fits_lit (by decide)) (fits_lit (by decide)) rfl rfl (by decide) (e := 24)
  have hx := lit2_below (v7) [1, 1] [1, 2, 1, 2] 2 4 (e := 24)
  have HL16 := Lib.hid (kept_tab.below HL13.out hx)
  clear HL13
  have HL17 := Lib.hid (kept_tab.below HL14.out hx)
  clear HL14
  have HL18 := Lib.hid (kept_tab.below HL15.out hx)
  clear HL15
  have HL19 := Lib.hid (kept_tab.below HT_v7.out hx)
  clear HT_v7
  have HBb := Lib.hid (bl3 HB_v7.out hx)
  have HTb := Lib.hid ht
  clear ht hx
  clear HB_v7
  go_wp2_with fail
  refine (HSM.out _ _ _ _ HL19.out HTb.out).mono ?_
  rintro e v8 ⟨rfl, hb⟩
  clear HL19
  clear HTb
  have HL20 := Lib.hid (kept_tab.below HL16.out hb)
  clear HL16
  have HL21 := Lib.hid (kept_tab.below HL17.out hb)
  clear HL17
  have HL22 := Lib.hid (kept_tab.below HL18.out hb)
  clear HL18
  have HB_v8 := Lib.hid (bl3 HBb.out hb)
  clear HBb
  clear hb
  go_wp2_with fail
  refine (HPL.out _ _ _ (by decide) HL21.out).mono ?_
  rintro e v9 ⟨⟨u, rfl, ht⟩, hb⟩
  clear HL21
  have HL23 := Lib.hid (kept_tab.below HL20.out hb)
  clear HL20
  have HL24 := Lib.hid (kept_tab.below HL22.out hb)
  clear HL22
  have HB_v9 := Lib.hid (bl3 HB_v8.out hb)
  clear HB_v8
  obtain ⟨A_v9, c_v9, rfl⟩ := Tab.form ht
  have HT_v9 := Lib.hid ht
  clear ht
  clear hb
  have ht := lit2 (v9) [-2, -2, -2] [-2, -1, -2, -1] (fits_lit (by decide)) (fits_lit (by decide)) rfl rfl (by decide) (e := 24)
  have hx := lit2_below (v9) [-2, -2, -2] [-2, -1, -2, -1] 3 4 (e := 24)
  have HL25 := Lib.hid (kept_tab.below HL23.out hx)
  clear HL23
  have HL26 := Lib.hid (kept_tab.below HL24.out hx)
  clear HL24
  have HL27 := Lib.hid (kept_tab.below HT_v9.out hx)
  clear HT_v9
  have HBc := Lib.hid (bl3 HB_v9.out hx)
  have HTc := Lib.hid ht
  clear ht hx
  clear HB_v9
  go_wp2_with fail
  refine (HSM.out _ _ _ _ HL27.out HTc.out).mono ?_
  rintro e v10 ⟨rfl, hb⟩
  clear HL27
  clear HTc
  have HL28 := Lib.hid (kept_tab.below HL25.out hb)
  clear HL25
  have HL29 := Lib.hid (kept_tab.below HL26.out hb)
  clear HL26
  have HB_v10 := Lib.hid (bl3 HBc.out hb)
  clear HBc
  clear hb
  go_wp2_with fail
  refine (small89_any _).mono ?_
  rintro e v11 ⟨⟨A_p11, c_p11, rfl, ht⟩, hb⟩
  have HL30 := Lib.hid (kept_tab.below HL28.out hb)
  clear HL28
  have HL31 := Lib.hid (kept_tab.below HL29.out hb)
  clear HL29
  have HB_v11 := Lib.hid (bl3 HB_v10.out hb)
  clear HB_v10
  clear hb
  have HP11 := Lib.hid ht
  clear ht
  have ht := lit1 (v11) [1] (fits_lit (by decide)) rfl (by decide) (e := 25)
  have hx := lit1_below (v11) [1] 1 (e := 25)
  have HL32 := Lib.hid (kept_tab.below HL30.out hx)
  clear HL30
  have HL33 := Lib.hid (kept_tab.below HL31.out hx)
  clear HL31
  have HL34 := Lib.hid (kept_tab.below HP11.out hx)
  clear HP11
  have HBd := Lib.hid (bl3 HB_v11.out hx)
  have HTd := Lib.hid ht
  clear ht hx
  clear HB_v11
  go_wp2_with fail
  refine (HF1.out _ _ _ HL34.out HTd.out).mono ?_
  rintro e v12 ⟨⟨u, rfl, ht⟩, hb⟩
  clear HL34
  clear HTd
  have HL35 := Lib.hid (kept_tab.below HL32.out hb)
  clear HL32
  have HL36 := Lib.hid (kept_tab.below HL33.out hb)
  clear HL33
  have HB_v12 := Lib.hid (bl3 HBd.out hb)
  clear HBd
  obtain ⟨A_v12, c_v12, rfl⟩ := Tab.form ht
  have HT_v12 := Lib.hid ht
  clear ht
  clear hb
  have hb : Below v12.heap.size v12 (v12.alloc (.cells #[.int .i64 3, .int .i64 3, .int .i64 0] 49)) := (Below.refl _ _).alloc (Nat.le_refl _) _
  have HL37 := Lib.hid (kept_tab.below HL35.out hb)
  clear HL35
  have HL38 := Lib.hid (kept_tab.below HL36.out hb)
  clear HL36
  have HL39 := Lib.hid (kept_tab.below HT_v12.out hb)
  clear HT_v12
  have HX_v12 := Lib.hid (bl3 HB_v12.out hb)
  clear hb HB_v12
  go_wp2_with fail
  refine (small89_any _).mono ?_
  rintro e v13 ⟨⟨A_p13, c_p13, rfl, ht⟩, hb⟩
  have HL40 := Lib.hid (kept_tab.below HL37.out hb)
  clear HL37
  have HL41 := Lib.hid (kept_tab.below HL38.out hb)
  clear HL38
  have HL42 := Lib.hid (kept_tab.below HL39.out hb)
  clear HL39
  have HB_v13 := Lib.hid (bl3 HX_v12.out hb)
  clear HX_v12
  clear hb
  have HP13 := Lib.hid ht
  clear ht
  have ht := lit1 (v13) [1] (fits_lit (by decide)) rfl (by decide) (e := 25)
  have hx := lit1_below (v13) [1] 1 (e := 25)
  have HL43 := Lib.hid (kept_tab.below HL40.out hx)
  clear HL40
  have HL44 := Lib.hid (kept_tab.below HL41.out hx)
  clear HL41
  have HL45 := Lib.hid (kept_tab.below HL42.out hx)
  clear HL42
  have HL46 := Lib.hid (kept_tab.below HP13.out hx)
  clear HP13
  have HBe := Lib.hid (bl3 HB_v13.out hx)
  have HTe := Lib.hid ht
  clear ht hx
  clear HB_v13
  go_wp2_with fail
  refine (HK1.out _ _ _ HL46.out HTe.out).mono ?_
  rintro e v14 ⟨⟨u, rfl, ht⟩, hb⟩
  clear HL46
  clear HTe
  have HL47 := Lib.hid (kept_tab.below HL43.out hb)
  clear HL43
  have HL48 := Lib.hid (kept_tab.below HL44.out hb)
  clear HL44
  have HL49 := Lib.hid (kept_tab.below HL45.out hb)
  clear HL45
  have HB_v14 := Lib.hid (bl3 HBe.out hb)
  clear HBe
  obtain ⟨A_v14, c_v14, rfl⟩ := Tab.form ht
  have HT_v14 := Lib.hid ht
  clear ht
  clear hb
  have hb : Below v14.heap.size v14 (v14.alloc (.cells #[.int .i64 3, .int .i64 3, .int .i64 0] 49)) := (Below.refl _ _).alloc (Nat.le_refl _) _
  have HL50 := Lib.hid (kept_tab.below HL47.out hb)
  clear HL47
  have HL51 := Lib.hid (kept_tab.below HL48.out hb)
  clear HL48
  have HL52 := Lib.hid (kept_tab.below HL49.out hb)
  clear HL49
  have HL53 := Lib.hid (kept_tab.below HT_v14.out hb)
  clear HT_v14
  have HX_v14 := Lib.hid (bl3 HB_v14.out hb)
  clear hb HB_v14
  go_wp2_with fail
  refine (HSM.out _ _ _ _ HL52.out HL50.out).mono ?_
  rintro e v15 ⟨rfl, hb⟩
  clear HL52
  have HL54 := Lib.hid (kept_tab.below HL50.out hb)
  clear HL50
  have HL55 := Lib.hid (kept_tab.below HL51.out hb)
  clear HL51
  have HL56 := Lib.hid (kept_tab.below HL53.out hb)
  clear HL53
  have HB_v15 := Lib.hid (bl3 HX_v14.out hb)
  clear HX_v14
  clear hb
  go_wp2_with fail
  refine (HSM.out _ _ _ _ HL56.out HL54.out).mono ?_
  rintro e v16 ⟨rfl, hb⟩
  clear HL56
  clear HL54
  have HL57 := Lib.hid (kept_tab.below HL55.out hb)
  clear HL55
  have HB_v16 := Lib.hid (bl3 HB_v15.out hb)
  clear HB_v15
  clear hb
  have ht := lit1 (v16) [1, 1, 1] (fits_lit (by decide)) rfl (by decide) (e := 25)
  have hx := lit1_below (v16) [1, 1, 1] 3 (e := 25)
  have HL58 := Lib.hid (kept_tab.below HL57.out hx)
  clear HL57
  have HBf := Lib.hid (bl3 HB_v16.out hx)
  have HTf := Lib.hid ht
  clear ht hx
  clear HB_v16
  go_wp2_with fail
  refine (HF2.out _ _ _ HTf.out tab_nil).mono ?_
  rintro e v17 ⟨⟨u, rfl, ht⟩, hb⟩
  clear HTf
  have HL59 := Lib.hid (kept_tab.below HL58.out hb)
  clear HL58
  have HB_v17 := Lib.hid (bl3 HBf.out hb)
  clear HBf
  obtain ⟨A_v17, c_v17, rfl⟩ := Tab.form ht
  have HT_v17 := Lib.hid ht
  clear ht
  clear hb
  go_wp2_with fail
  refine (HK2.out _ _ _ tab_nil tab_nil).mono ?_
  rintro e v18 ⟨⟨u, rfl, ht⟩, hb⟩
  have HL60 := Lib.hid (kept_tab.below HL59.out hb)
  clear HL59
  have HL61 := Lib.hid (kept_tab.below HT_v17.out hb)
  clear HT_v17
  have HB_v18 := Lib.hid (bl3 HB_v17.out hb)
  clear HB_v17
  obtain ⟨A_v18, c_v18, rfl⟩ := Tab.form ht
  have HT_v18 := Lib.hid ht
  clear ht
  clear hb
  have ht := lit2 (v18) [1, 1, 1] [1, 1] (fits_lit (by decide)) (fits_lit (by decide)) rfl rfl (by decide) (e := 25)
  have hx := lit2_below (v18) [1, 1, 1] [1, 1] 3 2 (e := 25)
  have HL62 := Lib.hid (kept_tab.below HL60.out hx)
  clear HL60
  have HL63 := Lib.hid (kept_tab.below HL61.out hx)
  clear HL61
  have HL64 := Lib.hid (kept_tab.below HT_v18.out hx)
  clear HT_v18
  have HBg := Lib.hid (bl3 HB_v18.out hx)
  have HTg := Lib.hid ht
  clear ht hx
  clear HB_v18
  go_wp2_with fail
  refine (HK3.out _ _ _ HTg.out tab_nil).mono ?_
  rintro e v19 ⟨⟨u, rfl, ht⟩, hb⟩
  clear HTg
  have HL65 := Lib.hid (kept_tab.below HL62.out hb)
  clear HL62
  have HL66 := Lib.hid (kept_tab.below HL63.out hb)
  clear HL63
  have HL67 := Lib.hid (kept_tab.below HL64.out hb)
  clear HL64
  have HB_v19 := Lib.hid (bl3 HBg.out hb)
  clear HBg
  obtain ⟨A_v19, c_v19, rfl⟩ := Tab.form ht
  have HT_v19 := Lib.hid ht
  clear ht
  clear hb
  go_wp2_with fail
  refine (awake79_any _).mono ?_
  rintro e v20 ⟨rfl, hb⟩
  have HL68 := Lib.hid (kept_tab.below HL65.out hb)
  clear HL65
  have HL69 := Lib.hid (kept_tab.below HL66.out hb)
  clear HL66
  have HL70 := Lib.hid (kept_tab.below HL67.out hb)
  clear HL67
  have HL71 := Lib.hid (kept_tab.below HT_v19.out hb)
  clear HT_v19
  have HB_v20 := Lib.hid (bl3 HB_v19.out hb)
  clear HB_v19
  clear hb
  have ht := lit1 (v20) [0, 0] (fits_lit (by decide)) rfl (by decide) (e := 24)
  have hx := lit1_below (v20) [0, 0] 2 (e := 24)
  have HL72 := Lib.hid (kept_tab.below HL68.out hx)
  clear HL68
  have HL73 := Lib.hid (kept_tab.below HL69.out hx)
  clear HL69
  have HL74 := Lib.hid (kept_tab.below HL70.out hx)
  clear HL70
  have HL75 := Lib.hid (kept_tab.below HL71.out hx)
  clear HL71
  have HBh := Lib.hid (bl3 HB_v20.out hx)
  have HTh := Lib.hid ht
  clear ht hx
  clear HB_v20
  go_wp2_with fail
  refine (HSM.out _ _ _ _ HL75.out HTh.out).mono ?_
  rintro e v21 ⟨rfl, hb⟩
  clear HL75
  clear HTh
  have HL76 := Lib.hid (kept_tab.below HL72.out hb)
  clear HL72
  have HL77 := Lib.hid (kept_tab.below HL73.out hb)
  clear HL73
  have HL78 := Lib.hid (kept_tab.below HL74.out hb)
  clear HL74
  have HB_v21 := Lib.hid (bl3 HBh.out hb)
  clear HBh
  clear hb
  go_wp2_with fail
  go_ret
  exact ⟨(by first | rfl | trivial), HB_v21.out⟩
end Go.Proofs
namespace Go.Proofs.Ct
def RW (t : Tb) (out : List W) : Prop := ∀ j, j < out.length → Way t 0 (out.getD j []) j
section
variable {g : Nat} {t : Tb}
end
end Go.Proofs.Ct
namespace Go.Proofs
open Go.RowKit Go.Shelf Go.Proofs.Ct Go.Maps
set_option maxRecDepth 100000 in
set_option maxHeartbeats 1000000 in
theorem words90_any (w : World) (v : Value) (l : List Int) (g : Nat) (h : IntsAt w v l) (hg : 1 ≤ g ∧ g ≤ 400) (hl : l.length ≤ 100000) : Calls Try.prog 90 #[v, .int .i64 (g : Int)] w (LawWordsPost (lawWords g 6 l) w) := by
  have HC : Hid (Calls Try.prog 135 #[v, .int .i64 (g : Int), .int .i64 12] w (WordsPost (wordsOf g 12 l) w)) := Lib.hid (wordsOf111_any w v l g 12 h hg (by omega) hl)
  have hwl := wordsTo_length g 12 l.length l
  have hwl2 : (wordsOf g 12 l).length ≤ 100000 := Nat.le_trans hwl hl
  obtain ⟨A, c, rfl, h1, h2, -⟩ := h.open_
  clear h hwl
  unfold LawWordsPost lawWords
  unfold WordsPost at HC
  generalize wordsOf g 12 l = X at *
  have hxl : (X.length : Int) ≤ 100000 := by omega
  have hx0 : (0 : Int) ≤ (X.length : Int) := Int.natCast_nonneg _
  obtain ⟨n, hn⟩ : ∃ n, n = min X.length 6 := ⟨_, rfl⟩
  have hnx : n ≤ X.length := by omega
  have HN : Hid ((n : Int) = min (X.length : Int) 6) := Lib.hid (by omega)
  have HT : Hid ((X.take 6) = X.take n ∧ (X.take n).length = n) := Lib.hid (by
    rw [List.length_take]
    refine ⟨?_, by omega⟩
    rcases Nat.lt_or_ge X.length 6 with h | h
    · rw [List.take_of_length_le (by omega), List.take_of_length_le (by omega)]
    · rw [show n = 6 by omega])
  rw [HT.out.1]
  clear hn
  go_enter Try.func90, Try.ntmps90
  go_wp2_with (first
    | (go_at_call 135; (refine HC.out.mono ?_); rintro e w2 ⟨⟨A5, c5, rfl, ht⟩, hb⟩
       obtain ⟨A6, hs6, ht6⟩ := tabB_sliced ht hnx
       obtain ⟨A7, c7, e7, hc7, -, -⟩ := LAt.open_ ht.at_
       obtain ⟨rfl, -, rfl⟩ := Value.slice.inj e7
       have HE : Hid ((∃ A c, Ending.returned (.slice A6 n c5) = .returned (.slice A (X.take n).length c) ∧ TabB w.heap.size w2 (.slice A (X.take n).length c) (X.take n)) ∧ Below w.heap.size w w2) := Lib.hid ⟨⟨A6, c5, by rw [HT.out.2], by rw [HT.out.2]; exact ht6⟩, hb⟩
       clear ht hb ht6 e7)
    | ((with_reducible refine wpList_sel 12 ?_); refine wpList_val rfl (r_min2 (.tmp 11) (.const (.int .i64 6)) _ _ (n : Int) rfl rfl rfl (by have := HN.out; omega)) ?_)
    | ((with_reducible refine wpList_sel 13 ?_); refine wpList_val rfl (r_slice_hi31 (.tmp 9) (.tmp 12) _ X.length c5 n rfl rfl rfl (by omega)) ?_; rw [hs6]))
  go_ret
  exact HE.out
set_option maxRecDepth 100000 in
set_option maxHeartbeats 1000000 in
theorem given83_any (w : World) (which : Int) (v : Value) (l : List Int) (h : IntsAt w v l) (hl : l.length ≤ 100000) (hw : -9223372036854775808 ≤ which ∧ which ≤ 9223372036854775807) : Calls Try.prog 83 #[.int .i64 which, v] w (GivenPost (givenP 6 which l) w) := by
  have h1 : which.tmod 2 < 2 := Int.tmod_lt_of_pos _ (by omega)
  have h2 : -2 < which.tmod 2 := Int.lt_tmod_of_pos _ (by omega)
  have hd : which.tdiv 2 * 2 + which.tmod 2 = which := Int.tdiv_mul_add_tmod _ _
  obtain ⟨hw1, hw2⟩ := hw
  have hd1 : -9223372036854775808 ≤ which.tdiv 2 := by omega
  have hd2 : which.tdiv 2 ≤ 9223372036854775807 := by omega
  have HI := Lib.hid h
  obtain ⟨A, c, rfl, hc1, hc2, -⟩ := h.open_
  have hb0 : Below w.heap.size w (w.alloc (.cells zero40 40)) := (Below.refl _ _).alloc (Nat.le_refl _) _
  have HB0 := Lib.hid hb0
  have HG0 := Lib.hid (heap_alloc_new w (.cells zero40 40))
  have hsz : (w.alloc (.cells zero40 40)).heap.size = w.heap.size + 1 := World.size_alloc _ _
  have HSZ := Lib.hid hsz
  clear h hb0 hsz
  unfold GivenPost
  by_cases he : which.tmod 2 = 0
  · have HE : Hid (givenP 6 which l = ((knownE (which.tdiv 2)).1, (knownE (which.tdiv 2)).2.1)) := Lib.hid (if_pos he)
    rw [HE.out]
    have HK : Hid (∀ W, Calls Try.prog 68 #[.int .i64 (which.tdiv 2)] W (KnownPost (knownE (which.tdiv 2)).1 (knownE (which.tdiv 2)).2.1 (knownE (which.tdiv 2)).2.2 W)) := Lib.hid fun W => known60_any W _
    unfold KnownPost at HK
    have d1 : (which.tmod 2 == 0) = true := by simpa using he
    clear HE he hd
    generalize (knownE (which.tdiv 2)).1 = p1 at *
    generalize (knownE (which.tdiv 2)).2.1 = p2 at *
    generalize (knownE (which.tdiv 2)).2.2 = p3 at *
    go_enter Try.func83, Try.ntmps83
    go_wp2_with (first
      | ((with_reducible refine wpList_sel 4 ?_); refine wpList_val rfl (r_alloc40 rfl) ?_)
      | (go_at_call 68; (refine (HK.out _).mono ?_); rintro e w2 ⟨⟨A2, c2, rfl, ht⟩, hb⟩
         have HB2 := Lib.hid (bl3 HB0.out hb)
         have HT2 := Lib.hid ht
         have HG2 : Hid (w2.heap[w.heap.size]? = some (.cells zero40 40 (0, 0))) := Lib.hid ((hb.block _ (by rw [HSZ.out]; omega)).trans HG0.out)
         have HS2 : Hid (w.heap.size + 1 ≤ w2.heap.size) := Lib.hid (by have := hb.size; rw [HSZ.out] at this; exact this)
         have HG3 : Hid (∀ cs, ((w2.alloc (.cells zero40 40)).setRow w2.heap.size cs).heap[w.heap.size]? = some (.cells zero40 40 (0, 0))) := Lib.hid fun cs => (setRow_other _ _ _ _ (by have := HS2.out; omega)).trans ((((Below.refl w2.heap.size w2).alloc (Nat.le_refl _) (.cells zero40 40)).block _ (by have := HS2.out; omega)).trans HG2.out)
         clear ht hb)
      | ((with_reducible refine wpList_sel 5 ?_); refine wpList_val rfl (r_alloc40 rfl) ?_)
      | ((with_reducible refine wpList_selStore 40 5 15 ?_); refine wpList_skip rfl (r_store40 (.tmp 5) (.tmp 15) rfl w2.heap.size zero40 _ rfl rfl (heap_alloc_new w2 _) rfl rfl (one40 _ _ _ _)) ?_)
      | ((with_reducible refine wpList_sel 17 ?_); refine wpList_val rfl (r_loadAt 40 (.tmp 5) _ _ rfl rfl (load40 (setRow_heap _ _ _ _ _ _ (heap_alloc_new w2 _)))) ?_)
      | ((with_reducible refine wpList_selStore 40 4 17 ?_); refine wpList_skip rfl (r_store40 (.tmp 4) (.tmp 17) rfl w.heap.size zero40 _ rfl rfl (HG3.out _) rfl rfl (one40 _ _ _ _)) ?_))
    try simp only [Exit.inBlock, Exit.then]
    refine bodyPost_ret (results_40 (p := 4) rfl _ _ w.heap.size _ rfl (setRow_heap _ _ _ _ _ _ (HG3.out _)) rfl) rfl ⟨⟨_, _, rfl, ?_⟩, ?_⟩
    · refine HT2.out _ fun k hk hk2 => ?_
      rw [HSZ.out] at hk
      exact (setRow_other _ _ _ _ (by omega)).trans ((setRow_other _ _ _ _ (by omega)).trans (((Below.refl w2.heap.size w2).alloc (Nat.le_refl _) (.cells zero40 40)).block _ hk2))
    · exact below_setRow (below_setRow (HB2.out.alloc HB2.out.size _) (by have := HS2.out; omega) _) (Nat.le_refl _) _
  · have h3 := Int.emod_nonneg (which.tdiv 2) (show (3 : Int) ≠ 0 by omega)
    have h4 := Int.emod_lt_of_pos (which.tdiv 2) (show (0 : Int) < 3 by omega)
    obtain ⟨m, hm⟩ := Int.eq_ofNat_of_zero_le h3
    have HE : Hid (givenP 6 which l = (((1 + m : Nat) : Int), lawWords (1 + m) 6 l)) := Lib.hid (by
      unfold givenP
      rw [if_neg he, hm, show (1 + (m : Int)).toNat = 1 + m by omega]
      exact Prod.ext (by show (1 : Int) + (m : Int) = ((1 + m : Nat) : Int); omega) (by simp))
    rw [HE.out]
    have hm3 : m < 3 := by omega
    have HT : Hid (∀ W, Calls Try.prog 67 #[.int .i64 (which.tdiv 2), .int .i64 3] W fun e w' => e = .returned (.int .i64 (m : Int)) ∧ w' = W) := Lib.hid fun W => by
      have := turn59_any W (which.tdiv 2) 3 (by omega)
      rwa [show ((3 : Nat) : Int) = 3 from rfl, hm] at this
    have HW : Hid (Calls Try.prog 90 #[.slice A l.length c, .int .i64 (1 + (m : Int))] (w.alloc (.cells zero40 40)) (LawWordsPost (lawWords (1 + m) 6 l) (w.alloc (.cells zero40 40)))) := Lib.hid (by
      rw [show 1 + (m : Int) = ((1 + m : Nat) : Int) by omega]
      exact words90_any _ _ l (1 + m) (kept_ints.below HI.out HB0.out) (by omega) hl)
    unfold LawWordsPost at HW
    have d1 : (which.tmod 2 == 0) = false := by simpa using he
    have hm0 : (0 : Int) ≤ (m : Int) := Int.natCast_nonneg _
    have hm1 : (m : Int) ≤ 2 := by omega
    have hmm : ((1 + m : Nat) : Int) = 1 + (m : Int) := by omega
    rw [hmm]
    clear HE he hd h3 h4 hm hmm
    generalize lawWords (1 + m) 6 l = X at *
    go_enter Try.func83, Try.ntmps83
    go_wp2_with (first
      | ((with_reducible refine wpList_sel 4 ?_); refine wpList_val rfl (r_alloc40 rfl) ?_)
      | (go_at_call 67; (refine (HT.out _).mono ?_); rintro e w1 ⟨rfl, rfl⟩)
      | (go_at_call 90; (refine HW.out.mono ?_); rintro e w2 ⟨⟨A2, c2, rfl, ht⟩, hb⟩
         have HB2 := Lib.hid (bl3 HB0.out hb)
         have HT2 := Lib.hid ht
         have HG2 : Hid (w2.heap[w.heap.size]? = some (.cells zero40 40 (0, 0))) := Lib.hid ((hb.block _ (by rw [HSZ.out]; omega)).trans HG0.out)
         clear ht hb)
      | ((with_reducible refine wpList_sel 26 ?_); refine wpList_val rfl (r_build40s (.tmp 22) (.tmp 25) (1 + (m : Int)) _ _ _ rfl rfl rfl) ?_; refine wpList_skip rfl (r_store40 (.tmp 4) (.tmp 26) rfl w.heap.size zero40 _ rfl rfl HG2.out rfl rfl (one40 _ _ _ _)) ?_))
    try simp only [Exit.inBlock, Exit.then]
    refine bodyPost_ret (results_40 (p := 4) rfl _ _ w.heap.size _ rfl (setRow_heap _ _ _ _ _ _ HG2.out) rfl) rfl ⟨⟨_, _, rfl, ?_⟩, ?_⟩
    · refine HT2.out _ fun k hk _ => ?_
      rw [HSZ.out] at hk
      exact setRow_other _ _ _ _ (by omega)
    · exact below_setRow HB2.out (Nat.le_refl _) _
theorem args_ok (which : Int) (l k : List Int) : ∃ g : Nat, (givenP 6 which l).1 = (g : Int) ∧ 1 ≤ g ∧ g ≤ 3 ∧ Wds g (givenP 6 which l).2 6 60 ∧ Wds g (lawWords g 6 k) 6 12 ∧ presE g (givenP 6 which l).2 = 0 ∧ ∀ lim : Nat, 1 ≤ lim → lim ≤ 20000 → badArgs g (lawWords g 6 k) (lim : Int) = false := by
  obtain ⟨g, h1, h2, h3, h4⟩ := given_wds 6 (Nat.le_refl _) which l
  have h5 := wds_law h2 6 k
  exact ⟨g, h1, h2, h3, h4, h5, h4.pres ⟨h2, by omega⟩ (by omega) (by omega), fun lim a b => h5.good (by omega) (by omega) ⟨a, b⟩⟩
theorem felschS (g : Int) (rels sub : List W) (limit : Int) (T : Tb) (a b c : Int) (h : felschE g rels sub limit = (T, (a, b), c)) (h1 : ∀ j, (sub.getD j []).length ≤ 100000) (h2 : sub.length ≤ 1000000) (h3 : ∀ j, (rels.getD j []).length ≤ 100) (hl : limit ≤ 1000) (W : World) (vr vs : Value) (hr : Tab W vr rels) (hs : Tab W vs sub) :
    Calls Try.prog 85 #[.agg #[.int .i64 g, vr], vs, .int .i64 limit] W fun e w' => (∃ u, e = .returned (.tuple #[u, .agg #[.int .i64 a, .int .i64 b, .int .i64 0], .int .i64 c]) ∧ Tab w' u T) ∧ Below W.heap.size W w' :=
  (felsch85_B W vr vs g rels sub limit hr hs h3 h1 h2 (.inl hl)).mono fun e w' (⟨⟨u, h5, h6⟩, h7⟩ : FelschPost g rels sub limit W e w') => by
    rw [h] at h5 h6
    exact ⟨⟨u, h5, h6.at_⟩, h7⟩
end Go.Proofs
namespace Go.Proofs
open Go.RowKit Go.Shelf Go.Proofs.Ct Go.Maps
theorem tab_one_newE {w : World} {X : List Int} {A : Option Addr} {c : Nat} {F G : Nat → Prop} {e : TypeId} (hx : IntsF G w (.slice A X.length c) X) (hg : ∀ k, G k → F k ∧ k < w.heap.size) (hq : F w.heap.size) : TabS F (w.alloc (.cells #[.slice A X.length c] e)) (.slice (some ⟨w.heap.size, 0, none⟩) 1 1) [X] := by
  have hal : Below w.heap.size w (w.alloc (.cells #[.slice A X.length c] e)) := (Below.refl _ _).alloc (Nat.le_refl _) _
  refine ⟨[.slice A X.length c], fun w' ha => ?_, rfl, fun k hk => ?_⟩
  · have h1 := (ha w.heap.size hq).trans (heap_alloc_new w _)
    refine ⟨_, 1, 1, rfl, rfl, Nat.le_refl _, by simp [maxLen], fun _ => ⟨w.heap.size, 0, rfl, fun m u hu => ?_⟩⟩
    rw [cell_of_row _ _ _ _ _ _ h1, Nat.zero_add]
    simpa using hu
  · obtain rfl : k = 0 := by simp at hk; omega
    exact ⟨_, rfl, (hx.keep fun q hq => hal.block q (hg q hq).2).mono fun q hq => (hg q hq).1⟩
theorem one_rows {w W : World} {A1 A2 : Option Addr} {c1 c2 : Nat} {x y : List Int} (h1 : IntsAt w (.slice A1 x.length c1) x) (h2 : IntsAt w (.slice A2 y.length c2) y) (hb : Below w.heap.size w W) :
    Tab ((W.alloc (.cells #[.slice A1 x.length c1] 24)).alloc (.cells #[.slice A2 y.length c2] 24)) (.slice (some ⟨W.heap.size, 0, none⟩) 1 1) [x] ∧
    Tab ((W.alloc (.cells #[.slice A1 x.length c1] 24)).alloc (.cells #[.slice A2 y.length c2] 24)) (.slice (some ⟨W.heap.size + 1, 0, none⟩) 1 1) [y] ∧
    Below w.heap.size w ((W.alloc (.cells #[.slice A1 x.length c1] 24)).alloc (.cells #[.slice A2 y.length c2] 24)) := by
  have k1 := IntsF.of_at (h1.below hb)
  have hal : Below W.heap.size W (W.alloc (.cells #[.slice A1 x.length c1] 24)) := (Below.refl _ _).alloc (Nat.le_refl _) _
  have hb2 : Below w.heap.size w (W.alloc (.cells #[.slice A1 x.length c1] 24)) := bl3 hb hal
  have k2 := IntsF.of_at (h2.below hb2)
  have hal2 : Below (W.alloc (.cells #[.slice A1 x.length c1] 24)).heap.size (W.alloc (.cells #[.slice A1 x.length c1] 24)) ((W.alloc (.cells #[.slice A1 x.length c1] 24)).alloc (.cells #[.slice A2 y.length c2] 24)) := (Below.refl _ _).alloc (Nat.le_refl _) _
  have t1 := (tab_one_newE (e := 24) (F := fun k => k ≤ W.heap.size) k1 (fun k hk => ⟨Nat.le_of_lt hk, hk⟩) (Nat.le_refl _)).tab
  have t2 := (tab_one_newE (e := 24) (F := fun k => k ≤ (W.alloc (.cells #[.slice A1 x.length c1] 24)).heap.size) k2 (fun k hk => ⟨Nat.le_of_lt hk, hk⟩) (Nat.le_refl _)).tab
  refine ⟨kept_tab.below t1 hal2, ?_, bl3 hb2 hal2⟩
  rwa [show (W.alloc (.cells #[.slice A1 x.length c1] 24)).heap.size = W.heap.size + 1 by simp] at t2
theorem cntW_succ (l : List W) (u : W) (k : Nat) (h : k < l.length) : cntW (l.take (k + 1)) u = cntW (l.take k) u + (if l.getD k [] = u then 1 else 0) := by
  unfold cntW
  rw [List.take_add_one, List.getElem?_eq_getElem h, List.getD_eq_getElem?_getD, List.getElem?_eq_getElem h, List.countP_append]
  simp only [Option.toList_some, Option.getD_some, List.countP_singleton, beq_iff_eq]
set_option maxRecDepth 100000 in
set_option maxHeartbeats 1000000 in
theorem count84_any (w : World) (vl v : Value) (l : List W) (u : W) (hl : Tab w vl l) (hu : IntsAt w v u) (hn : l.length ≤ 1000000) :
    Calls Try.prog 84 #[vl, v] w fun e w' => e = .returned (.int .i64 (cntW l u : Int)) ∧ Below w.heap.size w w' := by
  obtain ⟨AL, cL, rfl⟩ := Tab.form hl
  obtain ⟨Au, cu, rfl, -, -, -⟩ := hu.open_
  have HL := Lib.hid hl
  have HU := Lib.hid hu
  have hn0 : (0 : Int) ≤ (l.length : Int) := Int.natCast_nonneg _
  have hnI : (l.length : Int) ≤ 1000000 := by omega
  have HR0 := Lib.hid (Below.refl w.heap.size w)
  clear hl hu
  go_enter Try.func84, Try.ntmps84
  go_wp2_with fail
  go_loopw [5, 6] (fun n i wr => ∃ k : Nat, i = .int .i64 (k : Int) ∧ k ≤ l.length ∧ (∃ m : Nat, n = .int .i64 (m : Int) ∧ m ≤ k ∧ Hid (m = cntW (l.take k) u)) ∧ Hid (Below w.heap.size w wr)) (fun _ i _ => l.length - (intOf i).toNat)
  case atStart => exact ⟨0, rfl, Nat.zero_le _, ⟨0, rfl, Nat.le_refl _, Lib.hid (by simp [cntW])⟩, HR0⟩
  case round =>
    obtain ⟨k, rfl, hk, ⟨m, rfl, hm, HM⟩, HB⟩ := hrel
    have hk0 : (0 : Int) ≤ (k : Int) := Int.natCast_nonneg _
    have hm0 : (0 : Int) ≤ (m : Int) := Int.natCast_nonneg _
    have hmk : (m : Int) ≤ (k : Int) := by omega
    by_cases hlt : k < l.length
    · have hkI : (k : Int) < (l.length : Int) := by omega
      have hTw := kept_tab.below HL.out HB.out
      obtain ⟨bl, ol, rfl, hcl⟩ := hTw.cells (by omega)
      obtain ⟨up, hup, hip⟩ := hcl k hlt
      obtain ⟨Ap, cp, rfl, -, -, -⟩ := hip.open_
      have H1 := one_rows hip (HU.out.below HB.out) (Below.refl _ _)
      have H42 : Hid (Calls Try.prog 42 #[.slice (some ⟨wr.heap.size, 0, none⟩) 1 1, .slice (some ⟨wr.heap.size + 1, 0, none⟩) 1 1] ((wr.alloc (.cells #[.slice Ap (l.getD k []).length cp] 24)).alloc (.cells #[.slice Au u.length cu] 24)) fun e w' => e = .returned (.bool (decide (l.getD k [] = u))) ∧ Below w.heap.size w w') := Lib.hid ((same18_any _ _ _ _ _ H1.1 H1.2.1).mono fun e w' ⟨h, q, h'⟩ => ⟨h.trans (ret_bool (by simp)), h' ▸ below_drewN (bl3 HB.out H1.2.2) q⟩)
      have HS := Lib.hid (cntW_succ l u k hlt)
      clear hTw hcl hip H1
      by_cases he : l.getD k [] = u
      · rw [decide_eq_true he] at H42
        have HM2 : Hid (m + 1 = cntW (l.take (k + 1)) u) := Lib.hid (by rw [HS.out, if_pos he, HM.out])
        clear he
        generalize (l.getD k []).length = lp at *
        go_wp2_with (go_at_call 42; (with_reducible refine H42.out.mono ?_); rintro E wz ⟨rfl, hb⟩; have HB2 := Lib.hid hb; clear hb)
        go_roundw
        case rel => exact ⟨k + 1, by go_num, by omega, ⟨m + 1, by go_num, by omega, HM2⟩, HB2⟩
        case measure => simp [intOf]; omega
      · rw [decide_eq_false he] at H42
        have HM2 : Hid (m = cntW (l.take (k + 1)) u) := Lib.hid (by rw [HS.out, if_neg he, HM.out]; rfl)
        clear he
        generalize (l.getD k []).length = lp at *
        go_wp2_with (go_at_call 42; (with_reducible refine H42.out.mono ?_); rintro E wz ⟨rfl, hb⟩; have HB2 := Lib.hid hb; clear hb)
        go_roundw
        case rel => exact ⟨k + 1, by go_num, by omega, ⟨m, rfl, by omega, HM2⟩, HB2⟩
        case measure => simp [intOf]; omega
    · obtain rfl : k = l.length := by omega
      rw [List.take_length] at HM
      clear hlt hk
      go_wp2_with fail
      go_ret
      rw [← HM.out]
      exact ⟨rfl, HB.out⟩
end Go.Proofs
namespace Go.Proofs
open Go.RowKit Go.Shelf Go.Proofs.Ct Go.Maps
structure StepI (N : Nat) (wr : Nat → Bool) (us : Nat → Nat → Bool) (O : Nat → Nat → Prop) (i i0 : Nat) (I : Nat → Prop) (O' : Nat → Prop) (w w' : World) : Prop where
  size : w.heap.size ≤ w'.heap.size
  keep : ∀ k, k < w.heap.size → (∀ j, j < N → us i j = true → wr j = true → ¬ O j k) → w'.heap[k]? = w.heap[k]?
  foot : ∀ k, O' k → k < w'.heap.size ∧ (w.heap.size ≤ k ∨ (∃ j, j < N ∧ us i j = true ∧ O j k ∧ (wr i = true → wr j = true)) ∨ (i = i0 ∧ I k))
section
variable {F : Fence} {n : Nat} {P : Program} {ops : Array Oper} {Q : Exit → Act → World → Prop}
theorem wpIn_region_ini {id : Nat} {a0 : Act} {w : World} (hm : P.follows .mixedOrders = true) (N : Nat) (hN : ops.size = N) (dm : Nat → Option Tmp) (hlex : ∀ (i : Nat) (o : Oper), ops[i]? = some o → ∀ e ∈ o.after.toList, Region.binds .any e = true → e.on < i)
    (base : Nat) (i0 : Nat) (I : Nat → Prop) (hI : ∀ k, I k → k < w.heap.size) (wr : Nat → Bool) (us : Nat → Nat → Bool) (S : World → Prop) (Φ : Nat → Value → (Nat → Prop) → World → Prop)
    (hus : usB ops N us = true) (huq : uqB N wr us = true)
    (hdm : ∀ i j t, i < N → j < N → dm i = some t → dm j = some t → i = j)
    (hst : ∀ (j : Nat) (v : Value) (O : Nat → Prop) (W W' : World), j < N → (∀ k, O k → k < W.heap.size) → (∀ k, O k → W'.heap[k]? = W.heap[k]?) → W.heap.size ≤ W'.heap.size → S W → S W' → Φ j v O W → Φ j v O W')
    (hsz : ∀ i t, i < N → dm i = some t → t < a0.tmps.size) (hbase : base ≤ w.heap.size) (h0 : S w.drew)
    (hop0 : ∀ (ls : Nat → Bool) (o : Oper) (a : Act) (W : World), ops[i0]? = some o → S W → base ≤ W.heap.size → ls i0 = false → Part a0 dm N ls a → (∀ k, I k → W.heap[k]? = w.drew.heap[k]?) → w.heap.size ≤ W.heap.size → (∀ (j : Nat) (oj : Oper), ops[j]? = some oj → ls j = true → ∀ e ∈ oj.after.toList, Region.binds .any e = true → ls e.on = true) →
      wpOpIn F n P ops Q i0 (fun a' w' => ∃ v, a' = a.put (dm i0) v ∧ w' = W ∧ (dm i0 = none → v = undef) ∧ Φ i0 v I W) a W)
    (hop : ∀ (O : Nat → Nat → Prop) (ls : Nat → Bool) (i : Nat) (o : Oper) (a : Act) (w : World), i < N → i ≠ i0 → ops[i]? = some o → S w → base ≤ w.heap.size → ls i = false → Part a0 dm N ls a →
      (∀ j, j < N → us i j = true → Φ j (slotv a (dm j)) (O j) w ∧ ∀ k, O j k → (base ≤ k ∨ I k) ∧ k < w.heap.size) →
      (∀ j j' k, j < N → j' < N → us i j = true → us i j' = true → j ≠ j' → wr j = true → O j k → ¬ O j' k) →
      wpOpIn F n P ops Q i (fun a' w' => ∃ v O', a' = a.put (dm i) v ∧ S w' ∧ (dm i = none → v = undef) ∧ Step N wr us O i O' w w' ∧ Φ i v O' w') a w)
    (hend : ∀ (O : Nat → Nat → Prop) (ls : Nat → Bool) (a : Act) (w : World), (∀ i, i < N → ls i = true) → S w → base ≤ w.heap.size → Part a0 dm N ls a → (∀ j, j < N → (wr j = false ∨ ∀ i, i < N → us i j = false) → Φ j (slotv a (dm j)) (O j) w ∧ ∀ k, O j k → (base ≤ k ∨ I k) ∧ k < w.heap.size) → Q .normal a w) :
    (Code.region id ops true).wpIn F n P Q a0 w := by
  subst hN
  have hus' := us_of hus
  have huq' := uq_of huq
  refine wpIn_region_any hm ?_
  let lv : (Nat → Bool) → Nat → Prop := fun ls j => ls j = true ∧ ∀ i, i < ops.size → us i j = true → wr j = true → ls i = false
  refine wpAnyIn_inv (fun listed a W => Closed ops listed ∧ S W ∧ base ≤ W.heap.size ∧ Part a0 dm ops.size (fun j => listed.getD j false) a ∧ w.heap.size ≤ W.heap.size ∧ ∃ O : Nat → Nat → Prop,
    (listed.getD i0 false = false → (∀ k, I k → W.heap[k]? = w.drew.heap[k]?) ∧ ∀ j k, j < ops.size → listed.getD j false = true → O j k → ¬ I k) ∧
    (∀ j k, j < ops.size → listed.getD j false = true → O j k → (base ≤ k ∨ I k) ∧ k < W.heap.size) ∧
    (∀ j j' k, j < ops.size → j' < ops.size → lv (fun j => listed.getD j false) j → lv (fun j => listed.getD j false) j' → j ≠ j' → wr j = true → O j k → ¬ O j' k) ∧
    (∀ j, j < ops.size → lv (fun j => listed.getD j false) j → Φ j (slotv a (dm j)) (O j) W)) ?_ ?_ ops.size _ a0 _ (by simp) ?_ ⟨fun i o ho h => ?_, h0, hbase, ⟨rfl, rfl, fun _ _ => rfl⟩, Nat.le_refl _, fun _ _ => False, fun _ => ⟨fun _ _ => rfl, fun _ _ _ _ h => h.elim⟩, fun j k _ _ h => h.elim, fun j j' k _ _ _ _ _ _ h => h.elim, fun j hj h => ?_⟩
  · rintro listed a W i hls ⟨hcl, hS, hbw, hP, hsW, O, hOi, hOb, hOd, hsl⟩ hi
    obtain ⟨h1, h2, o, ho, hpre⟩ := ready_mem hi
    rw [getD_true_false (by omega)] at h2
    have hsetD : ∀ j, (listed.setIfInBounds i true).getD j false = if i = j then true else listed.getD j false := fun j => getD_set_listed (by omega)
    have hcl' : Closed ops (listed.setIfInBounds i true) := fun j oj hoj hl e he hb => by
      rw [hsetD] at hl ⊢
      by_cases eij : i = j
      · subst eij
        rw [ho] at hoj; cases hoj
        have := hpre e he hb
        split
        · rfl
        · exact this
      · rw [if_neg eij] at hl
        have := hcl j oj hoj hl e he hb
        split
        · rfl
        · exact this
    -- what i takes is live
    have hlive : ∀ j, j < ops.size → us i j = true → lv (fun j => listed.getD j false) j := fun j hj hu => by
      obtain ⟨e, he, rfl, hb⟩ := hus' i j h1 hj hu o ho
      refine ⟨hpre e he hb, fun i' hi' hu' hw => ?_⟩
      have := huq' i i' e.on h1 hi' hj hw hu hu'
      subst this
      exact h2
    have hwp : wpOpIn F n P ops Q i (fun a' w' => ∃ v O', a' = a.put (dm i) v ∧ S w' ∧ (dm i = none → v = undef) ∧ StepI ops.size wr us O i i0 I O' W w' ∧ Φ i v O' w') a W := by
      by_cases e0 : i = i0
      · subst e0
        obtain ⟨q1, q2⟩ := hOi h2
        refine wpOpIn_mono (fun a' w' h => ?_) (hop0 _ o a W ho hS hbw h2 hP q1 hsW hcl)
        obtain ⟨v, g1, rfl, g3, g4⟩ := h
        exact ⟨v, I, g1, hS, g3, ⟨Nat.le_refl _, fun _ _ _ => rfl, fun k hk => ⟨Nat.lt_of_lt_of_le (hI k hk) hsW, .inr (.inr ⟨rfl, hk⟩)⟩⟩, g4⟩
      · refine wpOpIn_mono (fun a' w' h => ?_) (hop O _ i o a W h1 e0 ho hS hbw h2 hP (fun j hj hu => ⟨hsl j hj (hlive j hj hu), fun k hk => hOb j k hj (hlive j hj hu).1 hk⟩) (fun j j' k hj hj' hu hu' hne hw => hOd j j' k hj hj' (hlive j hj hu) (hlive j' hj' hu') hne hw))
        obtain ⟨v, O', g1, g2, g3, g4, g5⟩ := h
        exact ⟨v, O', g1, g2, g3, ⟨g4.size, g4.keep, fun k hk => ⟨(g4.foot k hk).1, (g4.foot k hk).2.imp (fun h => h) .inl⟩⟩, g5⟩
    refine wpOpIn_mono (fun a' w' h => ?_) hwp
    obtain ⟨v, O', rfl, hS', hvn, hstep, hv⟩ := h
    have hP' := hP.put h1 v
    rw [show (fun j => if i = j then true else listed.getD j false) = (fun j => (listed.setIfInBounds i true).getD j false) from (funext hsetD).symm] at hP'
    -- what is live behind the step was live, and i has not taken it
    have hback : ∀ j, j < ops.size → i ≠ j → lv (fun j => (listed.setIfInBounds i true).getD j false) j → lv (fun j => listed.getD j false) j ∧ (us i j = true → wr j = false) := fun j hj hne hl => by
      obtain ⟨l1, l2⟩ := hl
      have l1' : (listed.setIfInBounds i true).getD j false = true := l1
      rw [hsetD, if_neg hne] at l1'
      refine ⟨⟨l1', fun i' hi' hu hw => ?_⟩, fun hu => ?_⟩
      · have h3 : (listed.setIfInBounds i true).getD i' false = false := l2 i' hi' hu hw
        rw [hsetD] at h3
        split at h3
        · cases h3
        · exact h3
      · rcases hw : wr j with _ | _
        · rfl
        · have h3 : (listed.setIfInBounds i true).getD i false = false := l2 i h1 hu hw
          rw [hsetD, if_pos rfl] at h3
          cases h3
    refine ⟨hcl', hS', Nat.le_trans hbw hstep.size, hP', Nat.le_trans hsW hstep.size, fun j => if i = j then O' else O j, fun hl0 => ?_, fun j k hj hl hk => ?_, fun j j' k hj hj' hl hl' hne hw hk hk' => ?_, fun j hj hl => ?_⟩
    · rw [hsetD] at hl0
      have hne0 : i ≠ i0 := fun e => by rw [if_pos e] at hl0; cases hl0
      rw [if_neg hne0] at hl0
      obtain ⟨q1, q2⟩ := hOi hl0
      refine ⟨fun k hk => ?_, fun j k hj hl hk hIk => ?_⟩
      · exact (hstep.keep k (Nat.lt_of_lt_of_le (hI k hk) hsW) fun j0 h5 h6 _ h8 => q2 j0 k h5 (hlive j0 h5 h6).1 h8 hk).trans (q1 k hk)
      · replace hk : (if i = j then O' else O j) k := hk
        by_cases e : i = j
        · rw [if_pos e] at hk
          rcases (hstep.foot k hk).2 with h4 | ⟨j0, h5, h6, h7, -⟩ | ⟨h4, -⟩
          · have := hI k hIk
            omega
          · exact q2 j0 k h5 (hlive j0 h5 h6).1 h7 hIk
          · exact hne0 h4
        · rw [if_neg e] at hk
          rw [hsetD, if_neg e] at hl
          exact q2 j k hj hl hk hIk
    · replace hk : (if i = j then O' else O j) k := hk
      by_cases e : i = j
      · rw [if_pos e] at hk
        obtain ⟨h3, h4⟩ := hstep.foot k hk
        refine ⟨?_, h3⟩
        rcases h4 with h4 | ⟨j0, h5, h6, h7, -⟩ | ⟨-, h4⟩
        · exact .inl (by omega)
        · exact (hOb j0 k h5 (hlive j0 h5 h6).1 h7).1
        · exact .inr h4
      · rw [if_neg e] at hk
        rw [hsetD, if_neg e] at hl
        have := hOb j k hj hl hk
        exact ⟨this.1, Nat.lt_of_lt_of_le this.2 hstep.size⟩
    · replace hk : (if i = j then O' else O j) k := hk
      replace hk' : (if i = j' then O' else O j') k := hk'
      by_cases e : i = j
      · subst e
        rw [if_pos rfl] at hk
        rw [if_neg hne] at hk'
        obtain ⟨b1, b2⟩ := hback j' hj' hne hl'
        obtain ⟨h3, h4⟩ := hstep.foot k hk
        rcases h4 with h4 | ⟨j0, h5, h6, h7, h8⟩ | ⟨rfl, h4⟩
        · have := (hOb j' k hj' b1.1 hk').2
          omega
        · have hw0 := h8 hw
          by_cases e0 : j0 = j'
          · subst e0
            rw [b2 h6] at hw0; cases hw0
          · exact hOd j0 j' k h5 hj' (hlive j0 h5 h6) b1 e0 hw0 h7 hk'
        · exact (hOi h2).2 j' k hj' b1.1 hk' h4
      · rw [if_neg e] at hk
        obtain ⟨b1, b2⟩ := hback j hj e hl
        by_cases e' : i = j'
        · subst e'
          rw [if_pos rfl] at hk'
          obtain ⟨h3, h4⟩ := hstep.foot k hk'
          rcases h4 with h4 | ⟨j0, h5, h6, h7, -⟩ | ⟨rfl, h4⟩
          · have := (hOb j k hj b1.1 hk).2
            omega
          · by_cases e0 : j = j0
            · subst e0
              rw [b2 h6] at hw; cases hw
            · exact hOd j j0 k hj h5 b1 (hlive j0 h5 h6) e0 hw hk h7
          · exact (hOi h2).2 j k hj b1.1 hk h4
        · rw [if_neg e'] at hk'
          exact hOd j j' k hj hj' b1 (hback j' hj' e' hl').1 hne hw hk hk'
    · show Φ j (slotv (a.put (dm i) v) (dm j)) (if i = j then O' else O j) w'
      by_cases e : i = j
      · subst e
        rw [if_pos rfl]
        have : slotv (a.put (dm i) v) (dm i) = v := by
          cases hdi : dm i with
          | none => rw [hvn hdi]; rfl
          | some t => exact put_getD_same _ _ _ (by rw [hP.size]; exact hsz i t h1 hdi)
        rw [this]
        exact hv
      · rw [if_neg e]
        obtain ⟨b1, b2⟩ := hback j hj e hl
        have hv' : slotv (a.put (dm i) v) (dm j) = slotv a (dm j) := by
          cases hdj : dm j with
          | none => rfl
          | some t =>
            cases hdi : dm i with
            | none => rfl
            | some t' => exact put_getD_ne _ _ _ _ (fun e' => e (hdm i j t h1 hj (by rw [hdi, e']) hdj))
        rw [hv']
        refine hst j _ _ W w' hj (fun k hk => (hOb j k hj b1.1 hk).2) (fun k hk => hstep.keep k (hOb j k hj b1.1 hk).2 fun j0 h5 h6 h7 h8 => ?_) hstep.size hS hS' (hsl j hj b1)
        by_cases e0 : j0 = j
        · subst e0
          rw [b2 h6] at h7; cases h7
        · exact hOd j0 j k h5 hj (hlive j0 h5 h6) b1 e0 h7 h8 hk
  · rintro listed a W hls ⟨hcl, hS, hbw, hP, hsW, O, -, hOb, hOd, hsl⟩ hr
    have hready : ∀ i, i < ops.size → listed.getD i false = true := by
      intro i
      induction i using Nat.strongRecOn with
      | _ i ih =>
        intro hi
        rcases hl : listed.getD i false with _ | _
        · have hmem : i ∈ Region.ready .any ops listed := by
            simp only [Region.ready, List.mem_filter, List.mem_range, Bool.and_eq_true, Bool.not_eq_true']
            refine ⟨hi, by rw [getD_true_false (by omega)]; exact hl, ?_⟩
            rw [Array.getElem?_eq_getElem hi]
            simp only [Option.map_some, Option.getD_some]
            rw [Array.all_eq_true_iff_forall_mem]
            intro e he
            by_cases hb : Region.binds .any e = true
            · have hlt := hlex i _ (Array.getElem?_eq_getElem hi) e (by simpa using he) hb
              simp [ih e.on hlt (by omega)]
            · simp [hb]
          rw [hr] at hmem; cases hmem
        · rfl
    refine hend O _ a W hready hS hbw hP (fun j hj hd => ⟨hsl j hj ⟨hready j hj, fun i hi hu hw => ?_⟩, fun k hk => hOb j k hj (hready j hj) hk⟩)
    rcases hd with hd | hd
    · rw [hd] at hw; cases hw
    · rw [hd i hi] at hu; cases hu
  · simp
  · have : (Array.replicate ops.size false).getD i false = false := by
      simp only [Array.getD_eq_getD_getElem?, Array.getElem?_replicate]; split <;> rfl
    rw [this] at h; cases h
  · have h1 := h.1
    have : (Array.replicate ops.size false).getD j false = false := by
      simp only [Array.getD_eq_getD_getElem?, Array.getElem?_replicate]; split <;> rfl
    have h2 : (Array.replicate ops.size false).getD j false = true := h1
    rw [this] at h2; cases h2
end
end Go.Proofs
namespace Go.Proofs
open Go.RowKit Go.Shelf Go.Proofs.Ct Go.Maps
def KpI (I : Nat → Prop) (w1 wr W : World) : Prop := Below w1.heap.size w1 W ∧ wr.heap.size ≤ W.heap.size ∧ ∀ q, q < wr.heap.size → ¬ I q → W.heap[q]? = wr.heap[q]?
theorem KpI.refl {I : Nat → Prop} {w1 wr : World} (h : Below w1.heap.size w1 wr) : KpI I w1 wr wr.drew := ⟨h.drew, Nat.le_refl _, fun _ _ _ => rfl⟩
theorem KpI.alloc {I : Nat → Prop} {w1 wr W : World} (h : KpI I w1 wr W) (o : Obj) : KpI I w1 wr (W.alloc o) := by
  have h2 : Below W.heap.size W (W.alloc o) := (Below.refl _ _).alloc (Nat.le_refl _) _
  exact ⟨bl3 h.1 h2, Nat.le_trans h.2.1 h2.size, fun q hq hn => (h2.block q (Nat.lt_of_lt_of_le hq h.2.1)).trans (h.2.2 q hq hn)⟩
theorem KpI.grown {I : Nat → Prop} {w1 wr W W' : World} {row : Option Nat} (h : KpI I w1 wr W) (hg : W.grownBy W' row) (hr : ∀ r, row = some r → w1.heap.size ≤ r ∧ (wr.heap.size ≤ r ∨ I r)) : KpI I w1 wr W' := by
  refine ⟨grown_below rfl h.1 hg fun r hr' => (hr r hr').1, Nat.le_trans h.2.1 hg.size, fun q hq hn => (hg.block q (Nat.lt_of_lt_of_le hq h.2.1) fun e => ?_).trans (h.2.2 q hq hn)⟩
  rcases (hr q e.symm).2 with h1 | h1
  · omega
  · exact hn h1
def AllSt (w1 wr : World) (B : Nat → Prop) (v : Value) (L : List (List Int)) : Prop := ∃ O : Nat → Prop, Below w1.heap.size w1 wr ∧ (FP.ownT L).holds w1.heap.size v O wr ∧ ∀ k, O k → w1.heap.size ≤ k ∧ k < wr.heap.size ∧ ¬ B k
theorem AllSt.nil (w1 : World) (B : Nat → Prop) : AllSt w1 w1 B (.slice none 0 0) [] :=
  ⟨fun _ => False, Below.refl _ _, ⟨none, 0, fun _ => False, rfl, ⟨[], World.ownsRow_nil _ _ _ _, RowsF.nil _ _⟩, fun _ h => h.elim, fun r hr => by cases hr⟩, fun _ h => h.elim⟩
theorem AllSt.keep {w1 wr W : World} {B : Nat → Prop} {v : Value} {L : List (List Int)} (h : AllSt w1 wr B v L) (hb : Below wr.heap.size wr W) : AllSt w1 W B v L := by
  obtain ⟨O, h1, h2, h3⟩ := h
  exact ⟨O, bl3 h1 hb, FP.keep rfl h1 (bl3 h1 hb) hb.size (fun k hk => hb.block k (h3 k hk).2.1) h2, fun k hk => ⟨(h3 k hk).1, Nat.lt_of_lt_of_le (h3 k hk).2.1 hb.size, (h3 k hk).2.2⟩⟩
theorem AllSt.mono {w1 wr : World} {B B' : Nat → Prop} {v : Value} {L : List (List Int)} (h : AllSt w1 wr B v L) (hb : ∀ k, k < wr.heap.size → B' k → B k) : AllSt w1 wr B' v L := by
  obtain ⟨O, h1, h2, h3⟩ := h
  exact ⟨O, h1, h2, fun k hk => ⟨(h3 k hk).1, (h3 k hk).2.1, fun h => (h3 k hk).2.2 (hb k (h3 k hk).2.1 h)⟩⟩
theorem AllSt.tab {w1 wr : World} {B : Nat → Prop} {v : Value} {L : List (List Int)} (h : AllSt w1 wr B v L) : Tab wr v L := by
  obtain ⟨O, -, h2, -⟩ := h
  obtain ⟨A, c, rfl, h3⟩ := FP.tab_own h2
  exact h3.tab
theorem tab_two_new {w : World} {X Y : List Int} {A A' : Option Addr} {c c' : Nat} {F G G' : Nat → Prop} (hx : IntsF G w (.slice A X.length c) X) (hy : IntsF G' w (.slice A' Y.length c') Y) (hg : ∀ k, G k → F k ∧ k < w.heap.size) (hg' : ∀ k, G' k → F k ∧ k < w.heap.size) (hq : F w.heap.size) : TabS F (w.alloc (.cells #[.slice A X.length c, .slice A' Y.length c'] 25)) (.slice (some ⟨w.heap.size, 0, none⟩) 2 2) [X, Y] := by
  have hal : Below w.heap.size w (w.alloc (.cells #[.slice A X.length c, .slice A' Y.length c'] 25)) := (Below.refl _ _).alloc (Nat.le_refl _) _
  refine ⟨[.slice A X.length c, .slice A' Y.length c'], fun w' ha => ?_, rfl, fun k hk => ?_⟩
  · have h1 := (ha w.heap.size hq).trans (heap_alloc_new w _)
    refine ⟨_, 2, 2, rfl, rfl, Nat.le_refl _, by simp [maxLen], fun _ => ⟨w.heap.size, 0, rfl, fun m u hu => ?_⟩⟩
    rw [cell_of_row _ _ _ _ _ _ h1, Nat.zero_add]
    simpa using hu
  · have hk2 : k = 0 ∨ k = 1 := by simp at hk; omega
    rcases hk2 with rfl | rfl
    · exact ⟨_, rfl, (hx.keep fun q hq => hal.block q (hg q hq).2).mono fun q hq => (hg q hq).1⟩
    · exact ⟨_, rfl, (hy.keep fun q hq => hal.block q (hg' q hq).2).mono fun q hq => (hg' q hq).1⟩
theorem two_tab {N : Nat} {wr : Nat → Bool} {us : Nat → Nat → Bool} {O : Nat → Nat → Prop} {i j j' : Nat} {w : World} {base : Nat} {X Y : List Int} {A A' : Option Addr} {c c' : Nat}
    (hX : OwnI base w (.slice A X.length c) X) (hY : OwnI base w (.slice A' Y.length c') Y) (fX : Fits X) (fY : Fits Y) (oX : ∀ r, (Value.slice A X.length c).ownBlock = some r → O j r) (oY : ∀ r, (Value.slice A' Y.length c').ownBlock = some r → O j' r)
    (hj : j < N) (hj' : j' < N) (hu : us i j = true) (hu' : us i j' = true) (hw : wr i = false) :
    (FP.tab [X, Y]).holds base (.slice (some ⟨w.heap.size, 0, none⟩) 2 2) (Mx N wr us O i w (w.alloc (.cells #[.slice A X.length c, .slice A' Y.length c'] 25))) (w.alloc (.cells #[.slice A X.length c, .slice A' Y.length c'] 25)) := by
  have hsz : (w.alloc (.cells #[.slice A X.length c, .slice A' Y.length c'] 25)).heap.size = w.heap.size + 1 := by simp
  refine ⟨_, 2, rfl, tab_two_new (IntsF.of_own hX fX) (IntsF.of_own hY fY) (fun k hk => ?_) (fun k hk => ?_) (.inr (Mx.fresh (Nat.le_refl _) (by omega)))⟩
  · have hl := owns_lt hX hk
    exact ⟨.inr (Mx.of hj hu (fun h => by rw [hw] at h; cases h) (oX k hk) (by omega)), hl⟩
  · have hl := owns_lt hY hk
    exact ⟨.inr (Mx.of hj' hu' (fun h => by rw [hw] at h; cases h) (oY k hk) (by omega)), hl⟩
end Go.Proofs
