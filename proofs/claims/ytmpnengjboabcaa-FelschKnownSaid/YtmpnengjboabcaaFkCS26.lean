/- The walk of FelschKnown; Closed facts of the program (A); Closed facts of the program (B); Closed facts of the program (C); Closed facts of the program (D); The closed facts of a statement, one by one. -/
import Derived.Test.YtmpnengjboabcaaFkCS21
import Derived.Test.YtmpnengjboabcaaFkCS25
import Derived.Test.YtmpnengjboabcaaFkCS14
import Derived.Test.YtmpnengjboabcaaRows
import Derived.Test.YtmpnengjboabcaaChecked
import Derived.ProofKit
import Derived.OpenShut
import Derived.JoinedOf
namespace Go.Proofs
open Go.RowKit Go.Shelf Go.Proofs.Ct Go.Maps
set_option maxRecDepth 100000 in
theorem small89_any (w : World) : Calls Try.prog 89 #[] w (PresAt 2 smallT w) := by
  have hg : ∀ i o, [Obj.cells zero40 40, .cells (ints [1, 1]).toArray 3, .cells (ints [2, 2, 2]).toArray 3, .cells (ints [1, 2, 1, 2]).toArray 3, .cells #[.slice (some ⟨w.heap.size + 1, 0, none⟩) 2 2, .slice (some ⟨w.heap.size + 1 + 1, 0, none⟩) 3 3, .slice (some ⟨w.heap.size + 1 + 1 + 1, 0, none⟩) 4 4] 25][i]? = some o →
      (((((w.alloc (.cells zero40 40)).alloc (.cells (ints [1, 1]).toArray 3)).alloc (.cells (ints [2, 2, 2]).toArray 3)).alloc (.cells (ints [1, 2, 1, 2]).toArray 3)).alloc (.cells #[.slice (some ⟨w.heap.size + 1, 0, none⟩) 2 2, .slice (some ⟨w.heap.size + 1 + 1, 0, none⟩) 3 3, .slice (some ⟨w.heap.size + 1 + 1 + 1, 0, none⟩) 4 4] 25)).heap[w.heap.size + i]? = some o := fun i o h => allocs_get _ w i o h
  have hb : Below w.heap.size w (((((w.alloc (.cells zero40 40)).alloc (.cells (ints [1, 1]).toArray 3)).alloc (.cells (ints [2, 2, 2]).toArray 3)).alloc (.cells (ints [1, 2, 1, 2]).toArray 3)).alloc (.cells #[.slice (some ⟨w.heap.size + 1, 0, none⟩) 2 2, .slice (some ⟨w.heap.size + 1 + 1, 0, none⟩) 3 3, .slice (some ⟨w.heap.size + 1 + 1 + 1, 0, none⟩) 4 4] 25)) :=
    allocs_below [Obj.cells zero40 40, .cells (ints [1, 1]).toArray 3, .cells (ints [2, 2, 2]).toArray 3, .cells (ints [1, 2, 1, 2]).toArray 3, .cells #[.slice (some ⟨w.heap.size + 1, 0, none⟩) 2 2, .slice (some ⟨w.heap.size + 1 + 1, 0, none⟩) 3 3, .slice (some ⟨w.heap.size + 1 + 1 + 1, 0, none⟩) 4 4] 25] w w.heap.size (Nat.le_refl _)
  have HG := Lib.hid hg
  have HB := Lib.hid hb
  have HX := Lib.hid (hg 0 _ rfl)
  clear hg hb
  go_enter Try.func89, Try.ntmps89
  go_wp2_with (first
    | ((with_reducible refine wpList_sel 0 ?_); refine wpList_val rfl (r_alloc40 rfl) ?_)
    | ((with_reducible refine wpList_sel 5 ?_); refine wpList_val rfl (r_build40s _ (.tmp 4) 2 _ _ _ rfl rfl rfl) ?_; refine wpList_skip rfl (r_store40 (.tmp 0) (.tmp 5) rfl w.heap.size zero40 _ rfl rfl HX.out rfl rfl (one40 _ _ _ _)) ?_))
  try simp only [Exit.inBlock, Exit.then]
  refine bodyPost_ret (results_40 (p := 0) rfl _ _ w.heap.size _ rfl (setRow_heap _ _ _ _ _ _ HX.out) rfl) rfl ⟨⟨_, _, rfl, ?_⟩, below_setRow HB.out (Nat.le_refl _) _⟩
  refine tab_blk ((setRow_other _ _ _ _ (by omega)).trans (HG.out 4 _ rfl)) rfl rfl (by simp) fun i hi => ?_
  have hi3 : i = 0 ∨ i = 1 ∨ i = 2 := by simp [smallT] at hi; omega
  rcases hi3 with rfl | rfl | rfl
  · exact ints_blk ((setRow_other _ _ _ _ (by omega)).trans (HG.out 1 _ rfl)) (fits_lit (by decide)) rfl (by omega)
  · exact ints_blk ((setRow_other _ _ _ _ (by omega)).trans (HG.out 2 _ rfl)) (fits_lit (by decide)) rfl (by omega)
  · exact ints_blk ((setRow_other _ _ _ _ (by omega)).trans (HG.out 3 _ rfl)) (fits_lit (by decide)) rfl (by omega)
theorem felschK (g : Int) (rels sub : List W) (limit : Int) (T : Tb) (a b c : Int) (h : felschE g rels sub limit = (T, (a, b), c)) (h1 : (sub.all fun x => decide (x.length ≤ 100000)) = true) (h2 : sub.length ≤ 1000000) (h3 : (rels.all fun x => decide (x.length ≤ 100)) = true) (hl : limit ≤ 1000) (W : World) (vr vs : Value) (hr : Tab W vr rels) (hs : Tab W vs sub) :
    Calls Try.prog 85 #[.agg #[.int .i64 g, vr], vs, .int .i64 limit] W fun e w' => (∃ u, e = .returned (.tuple #[u, .agg #[.int .i64 a, .int .i64 b, .int .i64 0], .int .i64 c]) ∧ Tab w' u T) ∧ Below W.heap.size W w' :=
  (felsch85_B W vr vs g rels sub limit hr hs (short_of h3) (short_of h1) h2 (.inl hl)).mono fun e w' (⟨⟨u, h5, h6⟩, h7⟩ : FelschPost g rels sub limit W e w') => by
    rw [h] at h5 h6
    exact ⟨⟨u, h5, h6.at_⟩, h7⟩
theorem lookK (g : Int) (rels sub : List W) (limit : Int) (T : Tb) (a b l c : Int) (h : lookE g rels sub limit = (T, (a, b, l), c)) (h1 : (sub.all fun x => decide (x.length ≤ 100000)) = true) (h2 : sub.length ≤ 1000000) (h3 : (rels.all fun x => decide (x.length ≤ 100000)) = true) (hl : limit ≤ 1000) (W : World) (vr vs : Value) (hr : Tab W vr rels) (hs : Tab W vs sub) :
    Calls Try.prog 87 #[.agg #[.int .i64 g, vr], vs, .int .i64 limit] W fun e w' => (∃ u, e = .returned (.tuple #[u, .agg #[.int .i64 a, .int .i64 b, .int .i64 l], .int .i64 c]) ∧ Tab w' u T) ∧ Below W.heap.size W w' :=
  (look87_B W vr vs g rels sub limit hr hs (short_of h3) (short_of h1) h2 (.inl hl)).mono fun e w' (⟨⟨u, h5, h6⟩, h7⟩ : LookPost g rels sub limit W e w') => by
    rw [h] at h5 h6
    exact ⟨⟨u, h5, h6.at_⟩, h7⟩
theorem wordsK (g : Int) (rels : List W) (x : Int) (T : List W) (c : Int) (h : wordsE g rels x = (T, c)) (h3 : (rels.all fun x => decide (x.length ≤ 100)) = true) (hx1 : -9223372036854775808 ≤ x) (hx2 : x ≤ 9223372036854775807) (W : World) (vr : Value) (hr : Tab W vr rels) :
    Calls Try.prog 80 #[.agg #[.int .i64 g, vr], .int .i64 x] W fun e w' => (∃ u, e = .returned (.tuple #[u, .int .i64 c]) ∧ Tab w' u T) ∧ Below W.heap.size W w' :=
  (words80_any W vr rels g x hr hx1 hx2 (short_of h3)).mono fun e w' (⟨⟨A, k, h5, h6⟩, h7⟩ : WordsEPost g rels x W e w') => by
    rw [h] at h5 h6
    exact ⟨⟨_, h5, h6.at_⟩, h7⟩
set_option maxRecDepth 100000 in
set_option maxHeartbeats 4000000 in
theorem felschKnown19_any (w : World) : Calls Try.prog 19 #[] w fun e w' => e = .returned (.bool true) ∧ Below w.heap.size w w' := by
  have HWa := Lib.hid (wordsK 2 smallT 1 [[1, 1], [1, 2, 1, 2]] 0 (by decide +kernel) (by decide) (by decide) (by decide))
  have HWb := Lib.hid (wordsK 2 smallT (-2) [[-2, -2, -2], [-2, -1, -2, -1]] 0 (by decide +kernel) (by decide) (by decide) (by decide))
  have HWc := Lib.hid (wordsK 2 smallT 3 [] 2 (by decide +kernel) (by decide) (by decide) (by decide))
  have HF1 := Lib.hid (felschK 2 smallT [[1]] 100 [[0, 0, 1, 2], [2, 2, 2, 0], [1, 1, 0, 1]] 3 3 0 (by decide +kernel) (by decide) (by decide) (by decide) (by decide))
  have HK1 := Lib.hid (lookK 2 smallT [[1]] 100 [[0, 0, 1, 2], [2, 2, 2, 0], [1, 1, 0, 1]] 3 3 0 0 (by decide +kernel) (by decide) (by decide) (by decide) (by decide))
  have HF2 := Lib.hid (felschK 1 [[1, 1, 1]] [] 2 [] 0 0 12 (by decide +kernel) (by decide) (by decide) (by decide) (by decide))
  have HK2 := Lib.hid (lookK 1 [] [] 3 [] 0 0 0 12 (by decide +kernel) (by decide) (by decide) (by decide) (by decide))
  have HK3 := Lib.hid (lookK 1 [[1, 1, 1], [1, 1]] [] 3 [[0, 0]] 3 3 0 0 (by decide +kernel) (by decide) (by decide) (by decide) (by decide))
  have HPL : Hid (∀ (W : World) (v : Value) (l : List (List Int)), l.length ≤ 1000000 → Tab W v l → Calls Try.prog 82 #[v] W fun e w' => (∃ u, e = .returned u ∧ Tab w' u l) ∧ Below W.heap.size W w') := Lib.hid fun W v l hl h => (plain82_any W v l h hl).mono fun e w' ⟨⟨A, c, h1, h2⟩, h3⟩ => ⟨⟨_, h1, h2⟩, h3⟩
  have HSM : Hid (∀ (W : World) (a b : Value) (T : Tb), Tab W a T → Tab W b T → Calls Try.prog 42 #[a, b] W fun e w'' => e = .returned (.bool true) ∧ Below W.heap.size W w'') := Lib.hid fun W a b T h1 h2 => (same18_any W a b _ _ h1 h2).mono fun e w'' ⟨h, q, h'⟩ => ⟨h.trans (ret_bool (decide_eq_true rfl)), h' ▸ below_drewN (Below.refl _ _) q⟩
  go_enter Try.func19, Try.ntmps19
  have HB0 := Lib.hid (Below.refl w.heap.size w)
  have ht := lit3 (w) [0, 0, 1, 2] [2, 2, 2, 0] [1, 1, 0, 1] (fits_lit (by decide)) (fits_lit (by decide)) (fits_lit (by decide)) rfl rfl rfl (by decide) (e := 24)
  have hx := lit3_below (w) [0, 0, 1, 2] [2, 2, 2, 0] [1, 1, 0, 1] 4 4 4 (e := 24)
  have HBa := Lib.hid (bl3 HB0.out hx)
  have HTa := Lib.hid ht
  clear ht hx
  go_wp2_with fail
  refine (small89_any _).mono ?_
  rintro e v1 ⟨⟨A_p1, c_p1, rfl, ht⟩, hb⟩
  have HL1 := Lib.hid (kept_tab.below HTa.out hb)
  clear HTa
  have HB_v1 := Lib.hid (bl3 HBa.out hb)
  clear HBa
  clear hb
  have HP1 := Lib.hid ht
  clear ht
  go_wp2_with fail
  refine (HWa.out _ _ HP1.out).mono ?_
  rintro e v2 ⟨⟨u, rfl, ht⟩, hb⟩
  clear HP1
  have HL2 := Lib.hid (kept_tab.below HL1.out hb)
  clear HL1
  have HB_v2 := Lib.hid (bl3 HB_v1.out hb)
  clear HB_v1
  obtain ⟨A_v2, c_v2, rfl⟩ := Tab.form ht
  have HT_v2 := Lib.hid ht
  clear ht
  clear hb
  go_wp2_with fail
  refine (small89_any _).mono ?_
  rintro e v3 ⟨⟨A_p3, c_p3, rfl, ht⟩, hb⟩
  have HL3 := Lib.hid (kept_tab.below HL2.out hb)
  clear HL2
  have HL4 := Lib.hid (kept_tab.below HT_v2.out hb)
  clear HT_v2
  have HB_v3 := Lib.hid (bl3 HB_v2.out hb)
  clear HB_v2
  clear hb
  have HP3 := Lib.hid ht
  clear ht
  go_wp2_with fail
  refine (HWb.out _ _ HP3.out).mono ?_
  rintro e v4 ⟨⟨u, rfl, ht⟩, hb⟩
  clear HP3
  have HL5 := Lib.hid (kept_tab.below HL3.out hb)
  clear HL3
  have HL6 := Lib.hid (kept_tab.below HL4.out hb)
  clear HL4
  have HB_v4 := Lib.hid (bl3 HB_v3.out hb)
  clear HB_v3
  obtain ⟨A_v4, c_v4, rfl⟩ := Tab.form ht
  have HT_v4 := Lib.hid ht
  clear ht
  clear hb
  go_wp2_with fail
  refine (small89_any _).mono ?_
  rintro e v5 ⟨⟨A_p5, c_p5, rfl, ht⟩, hb⟩
  have HL7 := Lib.hid (kept_tab.below HL5.out hb)
  clear HL5
  have HL8 := Lib.hid (kept_tab.below HL6.out hb)
  clear HL6
  have HL9 := Lib.hid (kept_tab.below HT_v4.out hb)
  clear HT_v4
  have HB_v5 := Lib.hid (bl3 HB_v4.out hb)
  clear HB_v4
  clear hb
  have HP5 := Lib.hid ht
  clear ht
  go_wp2_with fail
  refine (HWc.out _ _ HP5.out).mono ?_
  rintro e v6 ⟨⟨u, rfl, ht⟩, hb⟩
  clear HP5
  have HL10 := Lib.hid (kept_tab.below HL7.out hb)
  clear HL7
  have HL11 := Lib.hid (kept_tab.below HL8.out hb)
  clear HL8
  have HL12 := Lib.hid (kept_tab.below HL9.out hb)
  clear HL9
  have HB_v6 := Lib.hid (bl3 HB_v5.out hb)
  clear HB_v5
  obtain ⟨A_v6, c_v6, rfl⟩ := Tab.form ht
  have HT_v6 := Lib.hid ht
  clear ht
  clear hb
  go_wp2_with fail
  refine (HPL.out _ _ _ (by decide) HL11.out).mono ?_
  rintro e v7 ⟨⟨u, rfl, ht⟩, hb⟩
  clear HL11
  have HL13 := Lib.hid (kept_tab.below HL10.out hb)
  clear HL10
  have HL14 := Lib.hid (kept_tab.below HL12.out hb)
  clear HL12
  have HL15 := Lib.hid (kept_tab.below HT_v6.out hb)
  clear HT_v6
  have HB_v7 := Lib.hid (bl3 HB_v6.out hb)
  clear HB_v6
  obtain ⟨A_v7, c_v7, rfl⟩ := Tab.form ht
  have HT_v7 := Lib.hid ht
  clear ht
  clear hb
  have ht := lit2 (v7) [1, 1] [1, 2, 1, 2] (fits_lit (by decide)) (fits_lit (by decide)) rfl rfl (by decide) (e := 24)
  have hx := lit2_below (v7) [1, 1] [1, 2, 1, 2] 2 4 (e := 24)
  have HL16 := Lib.hid (kept_tab.below HL13.out hx)
  clear HL13
  have HL17 := Lib.hid (kept_tab.below HL14.out hx)
  clear HL14
  have HL18 := Lib.hid (kept_tab.below HL15.out hx)
  clear HL15
  have HL19 := Lib.hid (kept_tab.below HT_v7.out hx)
  clear HT_v7
  have HBb := Lib.hid (bl3 HB_v7.out hx)
  have HTb := Lib.hid ht
  clear ht hx
  clear HB_v7
  go_wp2_with fail
  refine (HSM.out _ _ _ _ HL19.out HTb.out).mono ?_
  rintro e v8 ⟨rfl, hb⟩
  clear HL19
  clear HTb
  have HL20 := Lib.hid (kept_tab.below HL16.out hb)
  clear HL16
  have HL21 := Lib.hid (kept_tab.below HL17.out hb)
  clear HL17
  have HL22 := Lib.hid (kept_tab.below HL18.out hb)
  clear HL18
  have HB_v8 := Lib.hid (bl3 HBb.out hb)
  clear HBb
  clear hb
  go_wp2_with fail
  refine (HPL.out _ _ _ (by decide) HL21.out).mono ?_
  rintro e v9 ⟨⟨u, rfl, ht⟩, hb⟩
  clear HL21
  have HL23 := Lib.hid (kept_tab.below HL20.out hb)
  clear HL20
  have HL24 := Lib.hid (kept_tab.below HL22.out hb)
  clear HL22
  have HB_v9 := Lib.hid (bl3 HB_v8.out hb)
  clear HB_v8
  obtain ⟨A_v9, c_v9, rfl⟩ := Tab.form ht
  have HT_v9 := Lib.hid ht
  clear ht
  clear hb
  have ht := lit2 (v9) [-2, -2, -2] [-2, -1, -2, -1] (fits_lit (by decide)) (fits_lit (by decide)) rfl rfl (by decide) (e := 24)
  have hx := lit2_below (v9) [-2, -2, -2] [-2, -1, -2, -1] 3 4 (e := 24)
  have HL25 := Lib.hid (kept_tab.below HL23.out hx)
  clear HL23
  have HL26 := Lib.hid (kept_tab.below HL24.out hx)
  clear HL24
  have HL27 := Lib.hid (kept_tab.below HT_v9.out hx)
  clear HT_v9
  have HBc := Lib.hid (bl3 HB_v9.out hx)
  have HTc := Lib.hid ht
  clear ht hx
  clear HB_v9
  go_wp2_with fail
  refine (HSM.out _ _ _ _ HL27.out HTc.out).mono ?_
  rintro e v10 ⟨rfl, hb⟩
  clear HL27
  clear HTc
  have HL28 := Lib.hid (kept_tab.below HL25.out hb)
  clear HL25
  have HL29 := Lib.hid (kept_tab.below HL26.out hb)
  clear HL26
  have HB_v10 := Lib.hid (bl3 HBc.out hb)
  clear HBc
  clear hb
  go_wp2_with fail
  refine (small89_any _).mono ?_
  rintro e v11 ⟨⟨A_p11, c_p11, rfl, ht⟩, hb⟩
  have HL30 := Lib.hid (kept_tab.below HL28.out hb)
  clear HL28
  have HL31 := Lib.hid (kept_tab.below HL29.out hb)
  clear HL29
  have HB_v11 := Lib.hid (bl3 HB_v10.out hb)
  clear HB_v10
  clear hb
  have HP11 := Lib.hid ht
  clear ht
  have ht := lit1 (v11) [1] (fits_lit (by decide)) rfl (by decide) (e := 25)
  have hx := lit1_below (v11) [1] 1 (e := 25)
  have HL32 := Lib.hid (kept_tab.below HL30.out hx)
  clear HL30
  have HL33 := Lib.hid (kept_tab.below HL31.out hx)
  clear HL31
  have HL34 := Lib.hid (kept_tab.below HP11.out hx)
  clear HP11
  have HBd := Lib.hid (bl3 HB_v11.out hx)
  have HTd := Lib.hid ht
  clear ht hx
  clear HB_v11
  go_wp2_with fail
  refine (HF1.out _ _ _ HL34.out HTd.out).mono ?_
  rintro e v12 ⟨⟨u, rfl, ht⟩, hb⟩
  clear HL34
  clear HTd
  have HL35 := Lib.hid (kept_tab.below HL32.out hb)
  clear HL32
  have HL36 := Lib.hid (kept_tab.below HL33.out hb)
  clear HL33
  have HB_v12 := Lib.hid (bl3 HBd.out hb)
  clear HBd
  obtain ⟨A_v12, c_v12, rfl⟩ := Tab.form ht
  have HT_v12 := Lib.hid ht
  clear ht
  clear hb
  have hb : Below v12.heap.size v12 (v12.alloc (.cells #[.int .i64 3, .int .i64 3, .int .i64 0] 49)) := (Below.refl _ _).alloc (Nat.le_refl _) _
  have HL37 := Lib.hid (kept_tab.below HL35.out hb)
  clear HL35
  have HL38 := Lib.hid (kept_tab.below HL36.out hb)
  clear HL36
  have HL39 := Lib.hid (kept_tab.below HT_v12.out hb)
  clear HT_v12
  have HX_v12 := Lib.hid (bl3 HB_v12.out hb)
  clear hb HB_v12
  go_wp2_with fail
  refine (small89_any _).mono ?_
  rintro e v13 ⟨⟨A_p13, c_p13, rfl, ht⟩, hb⟩
  have HL40 := Lib.hid (kept_tab.below HL37.out hb)
  clear HL37
  have HL41 := Lib.hid (kept_tab.below HL38.out hb)
  clear HL38
  have HL42 := Lib.hid (kept_tab.below HL39.out hb)
  clear HL39
  have HB_v13 := Lib.hid (bl3 HX_v12.out hb)
  clear HX_v12
  clear hb
  have HP13 := Lib.hid ht
  clear ht
  have ht := lit1 (v13) [1] (fits_lit (by decide)) rfl (by decide) (e := 25)
  have hx := lit1_below (v13) [1] 1 (e := 25)
  have HL43 := Lib.hid (kept_tab.below HL40.out hx)
  clear HL40
  have HL44 := Lib.hid (kept_tab.below HL41.out hx)
  clear HL41
  have HL45 := Lib.hid (kept_tab.below HL42.out hx)
  clear HL42
  have HL46 := Lib.hid (kept_tab.below HP13.out hx)
  clear HP13
  have HBe := Lib.hid (bl3 HB_v13.out hx)
  have HTe := Lib.hid ht
  clear ht hx
  clear HB_v13
  go_wp2_with fail
  refine (HK1.out _ _ _ HL46.out HTe.out).mono ?_
  rintro e v14 ⟨⟨u, rfl, ht⟩, hb⟩
  clear HL46
  clear HTe
  have HL47 := Lib.hid (kept_tab.below HL43.out hb)
  clear HL43
  have HL48 := Lib.hid (kept_tab.below HL44.out hb)
  clear HL44
  have HL49 := Lib.hid (kept_tab.below HL45.out hb)
  clear HL45
  have HB_v14 := Lib.hid (bl3 HBe.out hb)
  clear HBe
  obtain ⟨A_v14, c_v14, rfl⟩ := Tab.form ht
  have HT_v14 := Lib.hid ht
  clear ht
  clear hb
  have hb : Below v14.heap.size v14 (v14.alloc (.cells #[.int .i64 3, .int .i64 3, .int .i64 0] 49)) := (Below.refl _ _).alloc (Nat.le_refl _) _
  have HL50 := Lib.hid (kept_tab.below HL47.out hb)
  clear HL47
  have HL51 := Lib.hid (kept_tab.below HL48.out hb)
  clear HL48
  have HL52 := Lib.hid (kept_tab.below HL49.out hb)
  clear HL49
  have HL53 := Lib.hid (kept_tab.below HT_v14.out hb)
  clear HT_v14
  have HX_v14 := Lib.hid (bl3 HB_v14.out hb)
  clear hb HB_v14
  go_wp2_with fail
  refine (HSM.out _ _ _ _ HL52.out HL50.out).mono ?_
  rintro e v15 ⟨rfl, hb⟩
  clear HL52
  have HL54 := Lib.hid (kept_tab.below HL50.out hb)
  clear HL50
  have HL55 := Lib.hid (kept_tab.below HL51.out hb)
  clear HL51
  have HL56 := Lib.hid (kept_tab.below HL53.out hb)
  clear HL53
  have HB_v15 := Lib.hid (bl3 HX_v14.out hb)
  clear HX_v14
  clear hb
  go_wp2_with fail
  refine (HSM.out _ _ _ _ HL56.out HL54.out).mono ?_
  rintro e v16 ⟨rfl, hb⟩
  clear HL56
  clear HL54
  have HL57 := Lib.hid (kept_tab.below HL55.out hb)
  clear HL55
  have HB_v16 := Lib.hid (bl3 HB_v15.out hb)
  clear HB_v15
  clear hb
  have ht := lit1 (v16) [1, 1, 1] (fits_lit (by decide)) rfl (by decide) (e := 25)
  have hx := lit1_below (v16) [1, 1, 1] 3 (e := 25)
  have HL58 := Lib.hid (kept_tab.below HL57.out hx)
  clear HL57
  have HBf := Lib.hid (bl3 HB_v16.out hx)
  have HTf := Lib.hid ht
  clear ht hx
  clear HB_v16
  go_wp2_with fail
  refine (HF2.out _ _ _ HTf.out tab_nil).mono ?_
  rintro e v17 ⟨⟨u, rfl, ht⟩, hb⟩
  clear HTf
  have HL59 := Lib.hid (kept_tab.below HL58.out hb)
  clear HL58
  have HB_v17 := Lib.hid (bl3 HBf.out hb)
  clear HBf
  obtain ⟨A_v17, c_v17, rfl⟩ := Tab.form ht
  have HT_v17 := Lib.hid ht
  clear ht
  clear hb
  go_wp2_with fail
  refine (HK2.out _ _ _ tab_nil tab_nil).mono ?_
  rintro e v18 ⟨⟨u, rfl, ht⟩, hb⟩
  have HL60 := Lib.hid (kept_tab.below HL59.out hb)
  clear HL59
  have HL61 := Lib.hid (kept_tab.below HT_v17.out hb)
  clear HT_v17
  have HB_v18 := Lib.hid (bl3 HB_v17.out hb)
  clear HB_v17
  obtain ⟨A_v18, c_v18, rfl⟩ := Tab.form ht
  have HT_v18 := Lib.hid ht
  clear ht
  clear hb
  have ht := lit2 (v18) [1, 1, 1] [1, 1] (fits_lit (by decide)) (fits_lit (by decide)) rfl rfl (by decide) (e := 25)
  have hx := lit2_below (v18) [1, 1, 1] [1, 1] 3 2 (e := 25)
  have HL62 := Lib.hid (kept_tab.below HL60.out hx)
  clear HL60
  have HL63 := Lib.hid (kept_tab.below HL61.out hx)
  clear HL61
  have HL64 := Lib.hid (kept_tab.below HT_v18.out hx)
  clear HT_v18
  have HBg := Lib.hid (bl3 HB_v18.out hx)
  have HTg := Lib.hid ht
  clear ht hx
  clear HB_v18
  go_wp2_with fail
  refine (HK3.out _ _ _ HTg.out tab_nil).mono ?_
  rintro e v19 ⟨⟨u, rfl, ht⟩, hb⟩
  clear HTg
  have HL65 := Lib.hid (kept_tab.below HL62.out hb)
  clear HL62
  have HL66 := Lib.hid (kept_tab.below HL63.out hb)
  clear HL63
  have HL67 := Lib.hid (kept_tab.below HL64.out hb)
  clear HL64
  have HB_v19 := Lib.hid (bl3 HBg.out hb)
  clear HBg
  obtain ⟨A_v19, c_v19, rfl⟩ := Tab.form ht
  have HT_v19 := Lib.hid ht
  clear ht
  clear hb
  go_wp2_with fail
  refine (awake79_any _).mono ?_
  rintro e v20 ⟨rfl, hb⟩
  have HL68 := Lib.hid (kept_tab.below HL65.out hb)
  clear HL65
  have HL69 := Lib.hid (kept_tab.below HL66.out hb)
  clear HL66
  have HL70 := Lib.hid (kept_tab.below HL67.out hb)
  clear HL67
  have HL71 := Lib.hid (kept_tab.below HT_v19.out hb)
  clear HT_v19
  have HB_v20 := Lib.hid (bl3 HB_v19.out hb)
  clear HB_v19
  clear hb
  have ht := lit1 (v20) [0, 0] (fits_lit (by decide)) rfl (by decide) (e := 24)
  have hx := lit1_below (v20) [0, 0] 2 (e := 24)
  have HL72 := Lib.hid (kept_tab.below HL68.out hx)
  clear HL68
  have HL73 := Lib.hid (kept_tab.below HL69.out hx)
  clear HL69
  have HL74 := Lib.hid (kept_tab.below HL70.out hx)
  clear HL70
  have HL75 := Lib.hid (kept_tab.below HL71.out hx)
  clear HL71
  have HBh := Lib.hid (bl3 HB_v20.out hx)
  have HTh := Lib.hid ht
  clear ht hx
  clear HB_v20
  go_wp2_with fail
  refine (HSM.out _ _ _ _ HL75.out HTh.out).mono ?_
  rintro e v21 ⟨rfl, hb⟩
  clear HL75
  clear HTh
  have HL76 := Lib.hid (kept_tab.below HL72.out hb)
  clear HL72
  have HL77 := Lib.hid (kept_tab.below HL73.out hb)
  clear HL73
  have HL78 := Lib.hid (kept_tab.below HL74.out hb)
  clear HL74
  have HB_v21 := Lib.hid (bl3 HBh.out hb)
  clear HBh
  clear hb
  go_wp2_with fail
  go_ret
  exact ⟨(by first | rfl | trivial), HB_v21.out⟩
end Go.Proofs
namespace Go.Proofs.Ytmpnengjboabcaa
open Go.ChangeShapes Go.WideShapes Go.ChangeAt Go.RowKit
theorem fac_k25 : (Try.prog.mayEnter) = true := by kernel_rfl
end Go.Proofs.Ytmpnengjboabcaa
namespace Go.Proofs.Ytmpnengjboabcaa
open Go.ChangeShapes Go.WideShapes Go.ChangeAt Go.RowKit
theorem fac_k26 : ((Rows.topPresentRow.lifted == Try.prog.liftsFinal)) = true := by kernel_rfl
end Go.Proofs.Ytmpnengjboabcaa
namespace Go.Proofs.Ytmpnengjboabcaa
open Go.ChangeShapes Go.WideShapes Go.ChangeAt Go.RowKit
theorem fac_k27 : ((Try.prog.make == some Rows.topPresentRow.make)) = true := by kernel_rfl
end Go.Proofs.Ytmpnengjboabcaa
namespace Go.Proofs.Ytmpnengjboabcaa
open Go.ChangeShapes Go.WideShapes Go.ChangeAt Go.RowKit
theorem fac_k1 : (laidOutB Try.prog) = true := by kernel_rfl
theorem fac_k2 : (mapsRowed Try.prog) = true := by kernel_rfl
theorem fac_k24 : (Try.prog.stopsHeard) = true := by kernel_rfl
end Go.Proofs.Ytmpnengjboabcaa
namespace Go.Proofs.Ytmpnengjboabcaa
theorem and_mk {a b : Bool} (h : a = true) (k : b = true) : (a && b) = true := by rw [h, k]; rfl
theorem joined_mk {P : Program} {f : FuncId} {fn : Func} {s : ChangeSpec} {c : OpenClaim} (k0 : (c.wf (OpenSpec.ofChange s)) = true) (k1 : (laidOutB P) = true) (k2 : (mapsRowed P) = true) (k3 : (fn.params.all (P.readableRec ·)) = true) (k4 : (namedTie P c.named s.vars) = true) (k5 : ((c.stops == [])) = true) (k6 : ((P.stops == [])) = true) (k7 : ((c.knobs == [])) = true) (k8 : ((P.stopKnobs == [])) = true) (k9 : ((c.inPlace == P.inPlace f)) = true) (k10 : ((c.unfollowed == P.unfollowed f)) = true) (k11 : ((c.recurses == P.recurses f)) = true) (k12 : ((c.named == P.varsNamed f)) = true) (k13 : ((c.maps == (fn.params.toList ++ s.plain.varTypes P).any (P.mapsRec ·))) = true) (k14 : ((c.ifaces == (fn.params.toList ++ s.plain.varTypes P).any (P.ifacesRec ·))) = true) (k15 : ((c.mapsOut == P.mapsAmong fn.resultTypes.toList)) = true) (k16 : ((c.loops == (fn.params.toList ++ s.plain.varTypes P).any (P.loopsFrom ·))) = true) (k17 : ((c.wideKeys == (fn.params.toList ++ s.plain.varTypes P ++ fn.resultTypes.toList).any (P.wideKeysFrom ·))) = true) (k18 : (s.vars.all (P.varReadable ·)) = true) (k19 : (fn.resultTypes.all (fun t => P.readableRec t && decide (t < P.types.size))) = true) (k20 : ((c.ifacesOut == fn.resultTypes.toList.any (P.ifacesRec ·))) = true) (k21 : ((c.loopsOut == fn.resultTypes.toList.any (P.loopsFrom ·))) = true) (k22 : ((c.plainKeys == P.plainKeys)) = true) (k23 : (c.shortTexts.isNone) = true) (k24 : (P.stopsHeard) = true) (k25 : (P.mayEnter) = true) (k26 : ((c.lifted == P.liftsFinal)) = true) (k27 : ((P.make == some c.make)) = true) (k28 : ((c.domain.isEmpty && c.kinds == [])) = true) (k29 : ((c.pinned == c.pinnedBy)) = true) (k30 : ((c.veiled == (fn.params.toList ++ s.plain.varTypes P ++ fn.resultTypes.toList).any (P.veiledRec ·))) = true) (k31 : (c.veiledFits P fn.params.toList (fn.params.toList ++ s.plain.varTypes P ++ fn.resultTypes.toList)) = true) : joinedFacts P f fn s c = true := by
  have q28 := k28
  rw [Bool.and_eq_true, beq_iff_eq] at q28
  unfold joinedFacts
  refine (and_mk (and_mk (and_mk (and_mk (and_mk (and_mk (and_mk (and_mk (and_mk (and_mk (and_mk (and_mk (and_mk (and_mk (and_mk (and_mk (and_mk (and_mk (and_mk (and_mk (and_mk (and_mk (and_mk (and_mk (and_mk (and_mk (and_mk (and_mk (and_mk (and_mk (and_mk k0 k1) k2) k3) k4) k5) k6) k7) k8) k9) k10) k11) k12) k13) k14) k15) k16) k17) k18) k19) k20) k21) k22) k23) k24) k25) k26) k27) ?_) k29) k30) k31)
  rw [if_pos q28.1, q28.2]
  rfl
end Go.Proofs.Ytmpnengjboabcaa
