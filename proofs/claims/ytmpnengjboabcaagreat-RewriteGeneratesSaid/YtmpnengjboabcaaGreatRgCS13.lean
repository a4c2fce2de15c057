/- rewrite.Present; The law of chapter 21: vast, equal, same; The law of chapter 21: same, half, awake. -/
import Derived.Test.YtmpnengjboabcaaGreatRgCS12
namespace Go.Proofs
open Go.RowKit Go.Shelf Go.Proofs.Ct Go.Maps
theorem below_setRow {B : Nat} {w w1 : World} (h : Below B w w1) {g : Nat} (hg : B ≤ g) (cs : Array Value) : Below B w (w1.setRow g cs) :=
  h.trans ⟨rfl, rfl, rfl, by rw [World.setRow]; simp, fun k hk => setRow_other _ _ k _ (by omega)⟩
theorem holdsE_good {g : Nat} {rels : List W} {t : Tb} (h1 : presE g rels = 0) (h2 : (check g t).1 = 0) : holdsE g rels [] t = (holdsB rels [] t, 0) := by
  unfold holdsE
  rw [if_neg (by rw [h1]; simp), if_neg (by simp), if_neg (by rw [h2]; simp)]
set_option maxRecDepth 100000 in
set_option maxHeartbeats 4000000 in
theorem present24_pres (w : World) (vr vt : Value) (g : Int) (rels : List W) (t : Tb) (hR : Tab w vr rels) (ht : Tab w vt t) (he : presE g rels ≠ 0) : Calls Tryz.prog 14 #[.agg #[.int .i64 g, vr], vt] w (PresentPost g rels t w) := by
  obtain ⟨Ar, cr, rfl⟩ := Tab.form hR
  obtain ⟨At, ct, rfl⟩ := Tab.form ht
  have H78 : Hid (∀ W, Tab W (.slice Ar rels.length cr) rels → Calls Tryz.prog 32 #[.agg #[.int .i64 g, .slice Ar rels.length cr]] W fun e w' => (∃ y, e = .returned (.tuple #[.int .i64 (presE g rels), .int .i64 y])) ∧ Below W.heap.size W w') := Lib.hid fun W h => pcheck78_any W _ _ rels h
  have HE : Hid (presentE g rels t = ((0, []), presE g rels)) := Lib.hid (by unfold presentE; rw [if_pos he])
  have d1 : (presE g rels != 0) = true := by simpa using he
  generalize presE g rels = x at *
  clear he
  have HPB : Hid (∀ w0 : World, w0 = (w.alloc (.cells #[.int .i64 g, .slice Ar rels.length cr] 26)).alloc (.cells zero40 26) → Below w.heap.size w w0 ∧ w0.heap.size = w.heap.size + 2 ∧ w0.heap[w.heap.size]? = some (.cells #[.int .i64 g, .slice Ar rels.length cr] 26 (0, 0)) ∧ w0.heap[w.heap.size + 1]? = some (.cells zero40 26 (0, 0))) := Lib.hid fun w0 h => by
    subst h
    refine ⟨((Below.refl _ _).alloc (Nat.le_refl _) _).alloc (by simp) _, by simp, ?_, ?_⟩
    · exact (Below.heap_alloc (w.alloc _) _ w.heap.size (by simp)).trans (heap_alloc_new w _)
    · have := heap_alloc_new (w.alloc (.cells #[.int .i64 g, .slice Ar rels.length cr] 26)) (.cells zero40 26); rwa [World.size_alloc] at this
  have HRR := Lib.hid hR
  have HTT := Lib.hid ht
  clear hR ht
  go_enter Tryz.func14, Tryz.ntmps14
  go_wp2_with ((with_reducible refine wpList_sel 4 ?_); refine wpList_val rfl (r_alloc40 rfl) ?_)
  generalize hw0 : (w.alloc (.cells #[.int .i64 g, .slice Ar rels.length cr] 26)).alloc (.cells zero40 26) = w0 at *
  obtain ⟨hb0, hsz, hbp, hbr⟩ := HPB.out w0 rfl
  have HB0 := Lib.hid hb0
  have HSZ := Lib.hid hsz
  have HBP := Lib.hid hbp
  have HBX : Hid (∀ W, Below w0.heap.size w0 W → (W.cell? ⟨w.heap.size, 0, none⟩ = some (.int .i64 g) ∧ W.cell? ⟨w.heap.size, 1, none⟩ = some (.slice Ar rels.length cr)) ∧ W.heap[w.heap.size]? = some (.cells #[.int .i64 g, .slice Ar rels.length cr] 26 (0, 0)) ∧ W.heap[w.heap.size + 1]? = some (.cells zero40 26 (0, 0)) ∧ w.heap.size + 1 < W.heap.size) := Lib.hid fun W h => by
    have h1 := (h.block _ (Array.getElem?_eq_some_iff.1 hbp).1).trans hbp
    have h2 := (h.block _ (Array.getElem?_eq_some_iff.1 hbr).1).trans hbr
    exact ⟨cell_of2 h1, h1, h2, (Array.getElem?_eq_some_iff.1 h2).1⟩
  clear hw0 hb0 hsz hbp hbr HPB
  go_wp2_with (first
    | ((with_reducible refine wpList_sel 19 ?_); refine wpList_val rfl (r_loadAt 26 (.tmp 2) _ _ rfl rfl (load40 HBP.out)) ?_)
    | (go_at_call 32; (with_reducible refine (H78.out w0 (kept_tab.below HRR.out HB0.out)).mono ?_); rintro e w1 ⟨⟨y, rfl⟩, hb⟩
       have HB1 := Lib.hid hb
       obtain ⟨⟨p1, q1⟩, x1⟩ := HBX.out _ hb
       have HX1 := Lib.hid x1
       clear hb x1)
    | ((with_reducible refine wpList_sel 25 ?_); refine wpList_val rfl (r_build40 rfl) ?_; refine wpList_val rfl (r_move (.tmp 6) rfl rfl) ?_; refine wpList_skip rfl (r_store40 (.tmp 4) (.tmp 25) rfl (w.heap.size + 1) zero40 zero40 rfl rfl HX1.out.2.1 rfl rfl zero40_one) ?_))
  try simp only [Exit.inBlock, Exit.then]
  refine bodyPost_ret (results_40_tmp (p := 4) (q := 5) rfl _ _ (w.heap.size + 1) zero40 (.int .i64 x) rfl rfl (setRow_heap _ _ _ _ _ _ HX1.out.2.1) rfl) rfl ⟨⟨.slice none 0 0, by rw [HE.out]; rfl, by rw [HE.out]; exact tab_nil⟩, below_setRow (HB0.out.trans (HB1.out.mono HB0.out.size)) (Nat.le_succ _) _⟩
set_option maxRecDepth 100000 in
set_option maxHeartbeats 4000000 in
theorem present24_reps (w : World) (vr vt : Value) (g : Nat) (rels : List W) (t : Tb) (hR : Tab w vr rels) (ht : Tab w vt t) (he : presE g rels = 0) (hr : (repsE g t).2 ≠ 0) : Calls Tryz.prog 14 #[.agg #[.int .i64 (g : Int), vr], vt] w (PresentPost g rels t w) := by
  obtain ⟨Ar, cr, rfl⟩ := Tab.form hR
  obtain ⟨At, ct, rfl⟩ := Tab.form ht
  have H78 : Hid (∀ W, Tab W (.slice Ar rels.length cr) rels → Calls Tryz.prog 32 #[.agg #[.int .i64 (g : Int), .slice Ar rels.length cr]] W fun e w' => (∃ y, e = .returned (.tuple #[.int .i64 (presE (g : Int) rels), .int .i64 y])) ∧ Below W.heap.size W w') := Lib.hid fun W h => pcheck78_any W _ _ rels h
  have H68 : Hid (∀ W, Tab W (.slice At t.length ct) t → Calls Tryz.prog 24 #[.int .i64 (g : Int), .slice At t.length ct] W fun e w' => e = .returned (.tuple #[.agg zero95, .int .i64 (repsE g t).2]) ∧ Below W.heap.size W w') := Lib.hid fun W h => of68_bad W _ g t h hr
  have HE : Hid (presentE g rels t = ((0, []), (repsE g t).2)) := Lib.hid (by unfold presentE; rw [if_neg (by rw [he]; simp), if_pos hr])
  have d1 : ((repsE g t).2 != 0) = true := by simpa using hr
  rw [he] at H78
  generalize (repsE g t).2 = x at *
  clear he hr
  have HPB : Hid (∀ w0 : World, w0 = (w.alloc (.cells #[.int .i64 (g : Int), .slice Ar rels.length cr] 26)).alloc (.cells zero40 26) → Below w.heap.size w w0 ∧ w0.heap.size = w.heap.size + 2 ∧ w0.heap[w.heap.size]? = some (.cells #[.int .i64 (g : Int), .slice Ar rels.length cr] 26 (0, 0)) ∧ w0.heap[w.heap.size + 1]? = some (.cells zero40 26 (0, 0))) := Lib.hid fun w0 h => by
    subst h
    refine ⟨((Below.refl _ _).alloc (Nat.le_refl _) _).alloc (by simp) _, by simp, ?_, ?_⟩
    · exact (Below.heap_alloc (w.alloc _) _ w.heap.size (by simp)).trans (heap_alloc_new w _)
    · have := heap_alloc_new (w.alloc (.cells #[.int .i64 (g : Int), .slice Ar rels.length cr] 26)) (.cells zero40 26); rwa [World.size_alloc] at this
  have HRR := Lib.hid hR
  have HTT := Lib.hid ht
  clear hR ht
  go_enter Tryz.func14, Tryz.ntmps14
  go_wp2_with ((with_reducible refine wpList_sel 4 ?_); refine wpList_val rfl (r_alloc40 rfl) ?_)
  generalize hw0 : (w.alloc (.cells #[.int .i64 (g : Int), .slice Ar rels.length cr] 26)).alloc (.cells zero40 26) = w0 at *
  obtain ⟨hb0, hsz, hbp, hbr⟩ := HPB.out w0 rfl
  have HB0 := Lib.hid hb0
  have HSZ := Lib.hid hsz
  have HBP := Lib.hid hbp
  have HBX : Hid (∀ W, Below w0.heap.size w0 W → (W.cell? ⟨w.heap.size, 0, none⟩ = some (.int .i64 (g : Int)) ∧ W.cell? ⟨w.heap.size, 1, none⟩ = some (.slice Ar rels.length cr)) ∧ W.heap[w.heap.size]? = some (.cells #[.int .i64 (g : Int), .slice Ar rels.length cr] 26 (0, 0)) ∧ W.heap[w.heap.size + 1]? = some (.cells zero40 26 (0, 0)) ∧ w.heap.size + 1 < W.heap.size) := Lib.hid fun W h => by
    have h1 := (h.block _ (Array.getElem?_eq_some_iff.1 hbp).1).trans hbp
    have h2 := (h.block _ (Array.getElem?_eq_some_iff.1 hbr).1).trans hbr
    exact ⟨cell_of2 h1, h1, h2, (Array.getElem?_eq_some_iff.1 h2).1⟩
  clear hw0 hb0 hsz hbp hbr HPB
  go_wp2_with (first
    | ((with_reducible refine wpList_sel 19 ?_); refine wpList_val rfl (r_loadAt 26 (.tmp 2) _ _ rfl rfl (load40 HBP.out)) ?_)
    | (go_at_call 32; (with_reducible refine (H78.out w0 (kept_tab.below HRR.out HB0.out)).mono ?_); rintro e w1 ⟨⟨y, rfl⟩, hb⟩
       have HB1 := Lib.hid hb
       obtain ⟨⟨p1, q1⟩, x1⟩ := HBX.out _ hb
       have HX1 := Lib.hid x1
       clear hb x1)
    | (go_at_call 24; (with_reducible refine (H68.out _ (kept_tab.below HTT.out (HB0.out.trans (HB1.out.mono HB0.out.size)))).mono ?_); rintro e w2 ⟨rfl, hb⟩
       have HN2 := Lib.hid (heap_alloc_new w2 (.cells zero95 66))
       have HB2 := Lib.hid (HB1.out.trans (hb.mono HB1.out.size))
       have HB3 := Lib.hid (HB2.out.trans ((below_boxed (Below.refl w2.heap.size w2) (.cells zero95 66) zero95).mono HB2.out.size))
       have HX3 := Lib.hid (HBX.out _ HB3.out).2
       clear hb p1 q1)
    | ((with_reducible refine wpList_sel 8 ?_); refine wpList_val rfl (r_alloc95 rfl) ?_; refine wpList_skip rfl (r_store95 (.tmp 8) (.tmp 32) rfl w2.heap.size zero95 zero95 rfl rfl HN2.out rfl rfl zero95_one) ?_)
    | ((with_reducible refine wpList_sel 36 ?_); refine wpList_val rfl (r_build40 rfl) ?_; refine wpList_val rfl (r_move (.tmp 9) rfl rfl) ?_; refine wpList_skip rfl (r_store40 (.tmp 4) (.tmp 36) rfl (w.heap.size + 1) zero40 zero40 rfl rfl HX3.out.2.1 rfl rfl zero40_one) ?_))
  try simp only [Exit.inBlock, Exit.then]
  refine bodyPost_ret (results_40_tmp (p := 4) (q := 5) rfl _ _ (w.heap.size + 1) zero40 (.int .i64 x) rfl rfl (setRow_heap _ _ _ _ _ _ HX3.out.2.1) rfl) rfl ⟨⟨.slice none 0 0, by rw [HE.out]; rfl, by rw [HE.out]; exact tab_nil⟩, below_setRow (HB0.out.trans (HB3.out.mono HB0.out.size)) (Nat.le_succ _) _⟩
set_option maxRecDepth 100000 in
set_option maxHeartbeats 4000000 in
theorem present24_hold (w : World) (vr vt : Value) (g : Nat) (rels : List W) (t : Tb) (hR : Tab w vr rels) (ht : Tab w vt t) (he : presE g rels = 0) (hg : TGood g t) (hstd : std t 0 = some t) (hh : holdsB rels [] t = false) : Calls Tryz.prog 14 #[.agg #[.int .i64 (g : Int), vr], vt] w (PresentPost g rels t w) := by
  obtain ⟨Ar, cr, rfl⟩ := Tab.form hR
  obtain ⟨At, ct, rfl⟩ := Tab.form ht
  have H78 : Hid (∀ W, Tab W (.slice Ar rels.length cr) rels → Calls Tryz.prog 32 #[.agg #[.int .i64 (g : Int), .slice Ar rels.length cr]] W fun e w' => (∃ y, e = .returned (.tuple #[.int .i64 (presE (g : Int) rels), .int .i64 y])) ∧ Below W.heap.size W w') := Lib.hid fun W h => pcheck78_any W _ _ rels h
  have H68 : Hid (∀ W, Tab W (.slice At t.length ct) t → Calls Tryz.prog 24 #[.int .i64 (g : Int), .slice At t.length ct] W fun e w' => (∃ vr bm vl, e = .returned (.tuple #[.agg #[.slice At t.length ct, vr, .map (some bm), vl], .int .i64 0]) ∧ SysAt w' (.slice At t.length ct) vr bm vl t (reps t) (pairs t (reps t) g)) ∧ Below W.heap.size W w') := Lib.hid fun W h => of68_good W _ g t h hg hstd
  have hre : repsE g t = (reps t, 0) := by unfold repsE; rw [check_of_good hg, if_neg (by simp), if_pos hstd]
  have H35 : Hid (∀ W, Tab W (.slice Ar rels.length cr) rels → Tab W (.slice At t.length ct) t → Calls Tryz.prog 40 #[.agg #[.int .i64 (g : Int), .slice Ar rels.length cr], .slice none 0 0, .slice At t.length ct] W fun e w' => e = .returned (.tuple #[.bool (holdsB rels [] t), .int .i64 0]) ∧ Below W.heap.size W w') := Lib.hid fun W h h2 => (holds35_any W _ _ _ g rels [] t h tab_nil h2).mono fun e w' ⟨a, b⟩ => by
    rw [holdsE_good he (by rw [check_of_good hg])] at a
    exact ⟨a, b⟩
  rw [he] at H78
  have HE : Hid (presentE g rels t = ((0, []), 13)) := Lib.hid (by unfold presentE; rw [if_neg (by rw [he]; simp), hre, if_neg (by simp), if_pos hh])
  rw [hh] at H35
  clear he hh hg hstd hre
  have HPB : Hid (∀ w0 : World, w0 = (w.alloc (.cells #[.int .i64 (g : Int), .slice Ar rels.length cr] 26)).alloc (.cells zero40 26) → Below w.heap.size w w0 ∧ w0.heap.size = w.heap.size + 2 ∧ w0.heap[w.heap.size]? = some (.cells #[.int .i64 (g : Int), .slice Ar rels.length cr] 26 (0, 0)) ∧ w0.heap[w.heap.size + 1]? = some (.cells zero40 26 (0, 0))) := Lib.hid fun w0 h => by
    subst h
    refine ⟨((Below.refl _ _).alloc (Nat.le_refl _) _).alloc (by simp) _, by simp, ?_, ?_⟩
    · exact (Below.heap_alloc (w.alloc _) _ w.heap.size (by simp)).trans (heap_alloc_new w _)
    · have := heap_alloc_new (w.alloc (.cells #[.int .i64 (g : Int), .slice Ar rels.length cr] 26)) (.cells zero40 26); rwa [World.size_alloc] at this
  have HRR := Lib.hid hR
  have HTT := Lib.hid ht
  clear hR ht
  go_enter Tryz.func14, Tryz.ntmps14
  go_wp2_with ((with_reducible refine wpList_sel 4 ?_); refine wpList_val rfl (r_alloc40 rfl) ?_)
  generalize hw0 : (w.alloc (.cells #[.int .i64 (g : Int), .slice Ar rels.length cr] 26)).alloc (.cells zero40 26) = w0 at *
  obtain ⟨hb0, hsz, hbp, hbr⟩ := HPB.out w0 rfl
  have HB0 := Lib.hid hb0
  have HSZ := Lib.hid hsz
  have HBP := Lib.hid hbp
  have HBX : Hid (∀ W, Below w0.heap.size w0 W → (W.cell? ⟨w.heap.size, 0, none⟩ = some (.int .i64 (g : Int)) ∧ W.cell? ⟨w.heap.size, 1, none⟩ = some (.slice Ar rels.length cr)) ∧ W.heap[w.heap.size]? = some (.cells #[.int .i64 (g : Int), .slice Ar rels.length cr] 26 (0, 0)) ∧ W.heap[w.heap.size + 1]? = some (.cells zero40 26 (0, 0)) ∧ w.heap.size + 1 < W.heap.size) := Lib.hid fun W h => by
    have h1 := (h.block _ (Array.getElem?_eq_some_iff.1 hbp).1).trans hbp
    have h2 := (h.block _ (Array.getElem?_eq_some_iff.1 hbr).1).trans hbr
    exact ⟨cell_of2 h1, h1, h2, (Array.getElem?_eq_some_iff.1 h2).1⟩
  clear hw0 hb0 hsz hbp hbr HPB
  go_wp2_with (first
    | ((with_reducible refine wpList_sel 19 ?_); refine wpList_val rfl (r_loadAt 26 (.tmp 2) _ _ rfl rfl (load40 HBP.out)) ?_)
    | (go_at_call 32; (with_reducible refine (H78.out w0 (kept_tab.below HRR.out HB0.out)).mono ?_); rintro e w1 ⟨⟨y, rfl⟩, hb⟩
       have HB1 := Lib.hid hb
       obtain ⟨⟨p1, q1⟩, x1⟩ := HBX.out _ hb
       have HX1 := Lib.hid x1
       clear hb x1)
    | (go_at_call 24; (with_reducible refine (H68.out _ (kept_tab.below HTT.out (HB0.out.trans (HB1.out.mono HB0.out.size)))).mono ?_); rintro e w2 ⟨⟨vr, bm, vl, rfl, hS⟩, hb⟩
       obtain ⟨Aq, cq, rfl⟩ := Tab.form hS.reps
       obtain ⟨base, hl⟩ := hS.list
       obtain ⟨Al, cl, rfl⟩ := OwnP.form hl
       have HN2 := Lib.hid (heap_alloc_new w2 (.cells zero95 66))
       have HB2 := Lib.hid (HB1.out.trans (hb.mono HB1.out.size))
       have HS := Lib.hid hS
       have HNS := Lib.hid (setRow_heap (w2.alloc (.cells zero95 66)) w2.heap.size zero95 #[.slice At t.length ct, .slice Aq (reps t).length cq, .map (some bm), .slice Al (pairs t (reps t) g).length cl] 66 (0, 0) HN2.out)
       have HB3 := Lib.hid (HB2.out.trans ((below_boxed (Below.refl w2.heap.size w2) (.cells zero95 66) #[.slice At t.length ct, .slice Aq (reps t).length cq, .map (some bm), .slice Al (pairs t (reps t) g).length cl]).mono HB2.out.size))
       have HX3 := Lib.hid (HBX.out _ HB3.out).2
       clear hb hS hl p1 q1)
    | ((with_reducible refine wpList_sel 8 ?_); refine wpList_val rfl (r_alloc95 rfl) ?_; refine wpList_skip rfl (r_store95 (.tmp 8) (.tmp 32) rfl w2.heap.size zero95 #[.slice At t.length ct, .slice Aq (reps t).length cq, .map (some bm), .slice Al (pairs t (reps t) g).length cl] rfl rfl HN2.out rfl rfl (one95 _ _ _ _ _ _ _ _ _ _)) ?_)
    | ((with_reducible refine wpList_sel 39 ?_); refine wpList_val rfl (r_loadAt 26 (.tmp 2) _ _ rfl rfl (load40 HX3.out.1)) ?_)
    | (go_at_call 40; (with_reducible refine (H35.out _ (kept_tab.below HRR.out (HB0.out.trans (HB3.out.mono HB0.out.size))) (kept_tab.below HTT.out (HB0.out.trans (HB3.out.mono HB0.out.size)))).mono ?_); rintro e w4 ⟨rfl, hb⟩
       have HB4 := Lib.hid (HB3.out.trans (hb.mono HB3.out.size))
       have HX4 := Lib.hid (HBX.out _ HB4.out).2
       have HBS : Hid (w4.heap[w2.heap.size]? = some (.cells #[.slice At t.length ct, .slice Aq (reps t).length cq, .map (some bm), .slice Al (pairs t (reps t) g).length cl] 66 (0, 0))) := Lib.hid ((hb.block _ (Array.getElem?_eq_some_iff.1 HNS.out).1).trans HNS.out)
       have HS4 := Lib.hid ((HS.out.below (below_boxed (Below.refl w2.heap.size w2) (.cells zero95 66) #[.slice At t.length ct, .slice Aq (reps t).length cq, .map (some bm), .slice Al (pairs t (reps t) g).length cl])).below hb)
       have hx4 := (box_cells HBS.out).2.2.2
       clear hb)
    | ((with_reducible refine wpList_sel 46 ?_); refine wpList_val rfl (r_build40 rfl) ?_; refine wpList_skip rfl (r_store40 (.tmp 4) (.tmp 46) rfl (w.heap.size + 1) zero40 zero40 rfl rfl HX4.out.2.1 rfl rfl zero40_one) ?_))
  try simp only [Exit.inBlock, Exit.then]
  refine bodyPost_ret (results_40_tmp (p := 4) (q := 5) rfl _ _ (w.heap.size + 1) zero40 (.int .i64 13) rfl rfl (setRow_heap _ _ _ _ _ _ HX4.out.2.1) rfl) rfl ⟨⟨.slice none 0 0, by rw [HE.out]; rfl, by rw [HE.out]; exact tab_nil⟩, below_setRow (HB0.out.trans (HB4.out.mono HB0.out.size)) (Nat.le_succ _) _⟩
set_option maxRecDepth 100000 in
set_option maxHeartbeats 4000000 in
theorem present24_over (w : World) (vr vt : Value) (g : Nat) (rels : List W) (t : Tb) (hR : Tab w vr rels) (ht : Tab w vt t) (he : presE g rels = 0) (hg : TGood g t) (hstd : std t 0 = some t) (hh : holdsB rels [] t = true) (hm : 16 < (pairs t (reps t) g).length) : Calls Tryz.prog 14 #[.agg #[.int .i64 (g : Int), vr], vt] w (PresentPost g rels t w) := by
  obtain ⟨Ar, cr, rfl⟩ := Tab.form hR
  obtain ⟨At, ct, rfl⟩ := Tab.form ht
  have H78 : Hid (∀ W, Tab W (.slice Ar rels.length cr) rels → Calls Tryz.prog 32 #[.agg #[.int .i64 (g : Int), .slice Ar rels.length cr]] W fun e w' => (∃ y, e = .returned (.tuple #[.int .i64 (presE (g : Int) rels), .int .i64 y])) ∧ Below W.heap.size W w') := Lib.hid fun W h => pcheck78_any W _ _ rels h
  have H68 : Hid (∀ W, Tab W (.slice At t.length ct) t → Calls Tryz.prog 24 #[.int .i64 (g : Int), .slice At t.length ct] W fun e w' => (∃ vr bm vl, e = .returned (.tuple #[.agg #[.slice At t.length ct, vr, .map (some bm), vl], .int .i64 0]) ∧ SysAt w' (.slice At t.length ct) vr bm vl t (reps t) (pairs t (reps t) g)) ∧ Below W.heap.size W w') := Lib.hid fun W h => of68_good W _ g t h hg hstd
  have hre : repsE g t = (reps t, 0) := by unfold repsE; rw [check_of_good hg, if_neg (by simp), if_pos hstd]
  have H35 : Hid (∀ W, Tab W (.slice Ar rels.length cr) rels → Tab W (.slice At t.length ct) t → Calls Tryz.prog 40 #[.agg #[.int .i64 (g : Int), .slice Ar rels.length cr], .slice none 0 0, .slice At t.length ct] W fun e w' => e = .returned (.tuple #[.bool (holdsB rels [] t), .int .i64 0]) ∧ Below W.heap.size W w') := Lib.hid fun W h h2 => (holds35_any W _ _ _ g rels [] t h tab_nil h2).mono fun e w' ⟨a, b⟩ => by
    rw [holdsE_good he (by rw [check_of_good hg])] at a
    exact ⟨a, b⟩
  rw [he] at H78
  have HE : Hid (presentE g rels t = ((0, []), 5)) := Lib.hid (by unfold presentE; rw [if_neg (by rw [he]; simp), hre, if_neg (by simp), if_neg (by rw [hh]; simp), if_pos (by simpa using hm)])
  have hmI : (16 : Int) < ((pairs t (reps t) g).length : Int) := by omega
  rw [hh] at H35
  clear he hh hg hstd hre hm
  have HPB : Hid (∀ w0 : World, w0 = (w.alloc (.cells #[.int .i64 (g : Int), .slice Ar rels.length cr] 26)).alloc (.cells zero40 26) → Below w.heap.size w w0 ∧ w0.heap.size = w.heap.size + 2 ∧ w0.heap[w.heap.size]? = some (.cells #[.int .i64 (g : Int), .slice Ar rels.length cr] 26 (0, 0)) ∧ w0.heap[w.heap.size + 1]? = some (.cells zero40 26 (0, 0))) := Lib.hid fun w0 h => by
    subst h
    refine ⟨((Below.refl _ _).alloc (Nat.le_refl _) _).alloc (by simp) _, by simp, ?_, ?_⟩
    · exact (Below.heap_alloc (w.alloc _) _ w.heap.size (by simp)).trans (heap_alloc_new w _)
    · have := heap_alloc_new (w.alloc (.cells #[.int .i64 (g : Int), .slice Ar rels.length cr] 26)) (.cells zero40 26); rwa [World.size_alloc] at this
  have HRR := Lib.hid hR
  have HTT := Lib.hid ht
  clear hR ht
  go_enter Tryz.func14, Tryz.ntmps14
  go_wp2_with ((with_reducible refine wpList_sel 4 ?_); refine wpList_val rfl (r_alloc40 rfl) ?_)
  generalize hw0 : (w.alloc (.cells #[.int .i64 (g : Int), .slice Ar rels.length cr] 26)).alloc (.cells zero40 26) = w0 at *
  obtain ⟨hb0, hsz, hbp, hbr⟩ := HPB.out w0 rfl
  have HB0 := Lib.hid hb0
  have HSZ := Lib.hid hsz
  have HBP := Lib.hid hbp
  have HBX : Hid (∀ W, Below w0.heap.size w0 W → (W.cell? ⟨w.heap.size, 0, none⟩ = some (.int .i64 (g : Int)) ∧ W.cell? ⟨w.heap.size, 1, none⟩ = some (.slice Ar rels.length cr)) ∧ W.heap[w.heap.size]? = some (.cells #[.int .i64 (g : Int), .slice Ar rels.length cr] 26 (0, 0)) ∧ W.heap[w.heap.size + 1]? = some (.cells zero40 26 (0, 0)) ∧ w.heap.size + 1 < W.heap.size) := Lib.hid fun W h => by
    have h1 := (h.block _ (Array.getElem?_eq_some_iff.1 hbp).1).trans hbp
    have h2 := (h.block _ (Array.getElem?_eq_some_iff.1 hbr).1).trans hbr
    exact ⟨cell_of2 h1, h1, h2, (Array.getElem?_eq_some_iff.1 h2).1⟩
  clear hw0 hb0 hsz hbp hbr HPB
  go_wp2_with (first
    | ((with_reducible refine wpList_sel 19 ?_); refine wpList_val rfl (r_loadAt 26 (.tmp 2) _ _ rfl rfl (load40 HBP.out)) ?_)
    | (go_at_call 32; (with_reducible refine (H78.out w0 (kept_tab.below HRR.out HB0.out)).mono ?_); rintro e w1 ⟨⟨y, rfl⟩, hb⟩
       have HB1 := Lib.hid hb
       obtain ⟨⟨p1, q1⟩, x1⟩ := HBX.out _ hb
       have HX1 := Lib.hid x1
       clear hb x1)
    | (go_at_call 24; (with_reducible refine (H68.out _ (kept_tab.below HTT.out (HB0.out.trans (HB1.out.mono HB0.out.size)))).mono ?_); rintro e w2 ⟨⟨vr, bm, vl, rfl, hS⟩, hb⟩
       obtain ⟨Aq, cq, rfl⟩ := Tab.form hS.reps
       obtain ⟨base, hl⟩ := hS.list
       obtain ⟨Al, cl, rfl⟩ := OwnP.form hl
       have HN2 := Lib.hid (heap_alloc_new w2 (.cells zero95 66))
       have HB2 := Lib.hid (HB1.out.trans (hb.mono HB1.out.size))
       have HS := Lib.hid hS
       have HNS := Lib.hid (setRow_heap (w2.alloc (.cells zero95 66)) w2.heap.size zero95 #[.slice At t.length ct, .slice Aq (reps t).length cq, .map (some bm), .slice Al (pairs t (reps t) g).length cl] 66 (0, 0) HN2.out)
       have HB3 := Lib.hid (HB2.out.trans ((below_boxed (Below.refl w2.heap.size w2) (.cells zero95 66) #[.slice At t.length ct, .slice Aq (reps t).length cq, .map (some bm), .slice Al (pairs t (reps t) g).length cl]).mono HB2.out.size))
       have HX3 := Lib.hid (HBX.out _ HB3.out).2
       clear hb hS hl p1 q1)
    | ((with_reducible refine wpList_sel 8 ?_); refine wpList_val rfl (r_alloc95 rfl) ?_; refine wpList_skip rfl (r_store95 (.tmp 8) (.tmp 32) rfl w2.heap.size zero95 #[.slice At t.length ct, .slice Aq (reps t).length cq, .map (some bm), .slice Al (pairs t (reps t) g).length cl] rfl rfl HN2.out rfl rfl (one95 _ _ _ _ _ _ _ _ _ _)) ?_)
    | ((with_reducible refine wpList_sel 39 ?_); refine wpList_val rfl (r_loadAt 26 (.tmp 2) _ _ rfl rfl (load40 HX3.out.1)) ?_)
    | (go_at_call 40; (with_reducible refine (H35.out _ (kept_tab.below HRR.out (HB0.out.trans (HB3.out.mono HB0.out.size))) (kept_tab.below HTT.out (HB0.out.trans (HB3.out.mono HB0.out.size)))).mono ?_); rintro e w4 ⟨rfl, hb⟩
       have HB4 := Lib.hid (HB3.out.trans (hb.mono HB3.out.size))
       have HX4 := Lib.hid (HBX.out _ HB4.out).2
       have HBS : Hid (w4.heap[w2.heap.size]? = some (.cells #[.slice At t.length ct, .slice Aq (reps t).length cq, .map (some bm), .slice Al (pairs t (reps t) g).length cl] 66 (0, 0))) := Lib.hid ((hb.block _ (Array.getElem?_eq_some_iff.1 HNS.out).1).trans HNS.out)
       have HS4 := Lib.hid ((HS.out.below (below_boxed (Below.refl w2.heap.size w2) (.cells zero95 66) #[.slice At t.length ct, .slice Aq (reps t).length cq, .map (some bm), .slice Al (pairs t (reps t) g).length cl])).below hb)
       have hx4 := (box_cells HBS.out).2.2.2
       clear hb)
    | ((with_reducible refine wpList_sel 52 ?_); refine wpList_val rfl (r_build40 rfl) ?_; refine wpList_skip rfl (r_store40 (.tmp 4) (.tmp 52) rfl (w.heap.size + 1) zero40 zero40 rfl rfl HX4.out.2.1 rfl rfl zero40_one) ?_))
  try simp only [Exit.inBlock, Exit.then]
  refine bodyPost_ret (results_40_tmp (p := 4) (q := 5) rfl _ _ (w.heap.size + 1) zero40 (.int .i64 5) rfl rfl (setRow_heap _ _ _ _ _ _ HX4.out.2.1) rfl) rfl ⟨⟨.slice none 0 0, by rw [HE.out]; rfl, by rw [HE.out]; exact tab_nil⟩, below_setRow (HB0.out.trans (HB4.out.mono HB0.out.size)) (Nat.le_succ _) _⟩
set_option maxRecDepth 100000 in
set_option maxHeartbeats 4000000 in
theorem present24_good (w : World) (vr vt : Value) (g : Nat) (rels : List W) (t : Tb) (hR : Tab w vr rels) (ht : Tab w vt t) (he : presE g rels = 0) (hg : TGood g t) (hstd : std t 0 = some t) (hh : holdsB rels [] t = true) (hm : ¬ 16 < (pairs t (reps t) g).length) : Calls Tryz.prog 14 #[.agg #[.int .i64 (g : Int), vr], vt] w (PresentPost g rels t w) := by
  obtain ⟨Ar, cr, rfl⟩ := Tab.form hR
  obtain ⟨At, ct, rfl⟩ := Tab.form ht
  have H78 : Hid (∀ W, Tab W (.slice Ar rels.length cr) rels → Calls Tryz.prog 32 #[.agg #[.int .i64 (g : Int), .slice Ar rels.length cr]] W fun e w' => (∃ y, e = .returned (.tuple #[.int .i64 (presE (g : Int) rels), .int .i64 y])) ∧ Below W.heap.size W w') := Lib.hid fun W h => pcheck78_any W _ _ rels h
  have H68 : Hid (∀ W, Tab W (.slice At t.length ct) t → Calls Tryz.prog 24 #[.int .i64 (g : Int), .slice At t.length ct] W fun e w' => (∃ vr bm vl, e = .returned (.tuple #[.agg #[.slice At t.length ct, vr, .map (some bm), vl], .int .i64 0]) ∧ SysAt w' (.slice At t.length ct) vr bm vl t (reps t) (pairs t (reps t) g)) ∧ Below W.heap.size W w') := Lib.hid fun W h => of68_good W _ g t h hg hstd
  have hre : repsE g t = (reps t, 0) := by unfold repsE; rw [check_of_good hg, if_neg (by simp), if_pos hstd]
  have H35 : Hid (∀ W, Tab W (.slice Ar rels.length cr) rels → Tab W (.slice At t.length ct) t → Calls Tryz.prog 40 #[.agg #[.int .i64 (g : Int), .slice Ar rels.length cr], .slice none 0 0, .slice At t.length ct] W fun e w' => e = .returned (.tuple #[.bool (holdsB rels [] t), .int .i64 0]) ∧ Below W.heap.size W w') := Lib.hid fun W h h2 => (holds35_any W _ _ _ g rels [] t h tab_nil h2).mono fun e w' ⟨a, b⟩ => by
    rw [holdsE_good he (by rw [check_of_good hg])] at a
    exact ⟨a, b⟩
  rw [he] at H78
  have HE1 : Hid (tooLong (relTo t (reps t) g rels t.length) = true → presentE g rels t = ((0, []), 4)) := Lib.hid fun h => by unfold presentE; rw [if_neg (by rw [he]; simp), hre, if_neg (by simp), if_neg (by rw [hh]; simp), if_neg (by simpa using hm), if_pos (by simpa using h)]
  have HE2 : Hid (tooLong (relTo t (reps t) g rels t.length) = false → presentE g rels t = ((((pairs t (reps t) g).length : Int), relTo t (reps t) g rels t.length), 0)) := Lib.hid fun h => by unfold presentE; rw [if_neg (by rw [he]; simp), hre, if_neg (by simp), if_neg (by rw [hh]; simp), if_neg (by simpa using hm), if_neg (by simp [h])]; rfl
  have hmI : ¬ (16 : Int) < ((pairs t (reps t) g).length : Int) := by omega
  have HRL : Hid (∀ j, j < rels.length → LetsOk g (rels.getD j []) ∧ (rels.getD j []).length ≤ 4000) := Lib.hid fun j hj => by
    obtain ⟨gn, e, -, -, -, h⟩ := presE_good he
    obtain rfl : g = gn := by omega
    exact h j hj
  have HRC := Lib.hid hR.cells
  have hrl1 : (rels.length : Int) ≤ 100 := by obtain ⟨gn, e, -, -, h, -⟩ := presE_good he; omega
  have htl1 := hg.n2
  have hrl0 : (0 : Int) ≤ (rels.length : Int) := Int.natCast_nonneg _
  have htl0 : (0 : Int) ≤ (t.length : Int) := Int.natCast_nonneg _
  have HG := Lib.hid hg
  have HSTD := Lib.hid (std_iff hstd)
  rw [hh] at H35
  clear he hh hg hstd hre hm
  have HPB : Hid (∀ w0 : World, w0 = (w.alloc (.cells #[.int .i64 (g : Int), .slice Ar rels.length cr] 26)).alloc (.cells zero40 26) → Below w.heap.size w w0 ∧ w0.heap.size = w.heap.size + 2 ∧ w0.heap[w.heap.size]? = some (.cells #[.int .i64 (g : Int), .slice Ar rels.length cr] 26 (0, 0)) ∧ w0.heap[w.heap.size + 1]? = some (.cells zero40 26 (0, 0))) := Lib.hid fun w0 h => by
    subst h
    refine ⟨((Below.refl _ _).alloc (Nat.le_refl _) _).alloc (by simp) _, by simp, ?_, ?_⟩
    · exact (Below.heap_alloc (w.alloc _) _ w.heap.size (by simp)).trans (heap_alloc_new w _)
    · have := heap_alloc_new (w.alloc (.cells #[.int .i64 (g : Int), .slice Ar rels.length cr] 26)) (.cells zero40 26); rwa [World.size_alloc] at this
  have HRR := Lib.hid hR
  have HTT := Lib.hid ht
  clear hR ht
  go_enter Tryz.func14, Tryz.ntmps14
  go_wp2_with ((with_reducible refine wpList_sel 4 ?_); refine wpList_val rfl (r_alloc40 rfl) ?_)
  generalize hw0 : (w.alloc (.cells #[.int .i64 (g : Int), .slice Ar rels.length cr] 26)).alloc (.cells zero40 26) = w0 at *
  obtain ⟨hb0, hsz, hbp, hbr⟩ := HPB.out w0 rfl
  have HB0 := Lib.hid hb0
  have HSZ := Lib.hid hsz
  have HBP := Lib.hid hbp
  have HBX : Hid (∀ W, Below w0.heap.size w0 W → (W.cell? ⟨w.heap.size, 0, none⟩ = some (.int .i64 (g : Int)) ∧ W.cell? ⟨w.heap.size, 1, none⟩ = some (.slice Ar rels.length cr)) ∧ W.heap[w.heap.size]? = some (.cells #[.int .i64 (g : Int), .slice Ar rels.length cr] 26 (0, 0)) ∧ W.heap[w.heap.size + 1]? = some (.cells zero40 26 (0, 0)) ∧ w.heap.size + 1 < W.heap.size) := Lib.hid fun W h => by
    have h1 := (h.block _ (Array.getElem?_eq_some_iff.1 hbp).1).trans hbp
    have h2 := (h.block _ (Array.getElem?_eq_some_iff.1 hbr).1).trans hbr
    exact ⟨cell_of2 h1, h1, h2, (Array.getElem?_eq_some_iff.1 h2).1⟩
  clear hw0 hb0 hsz hbp hbr HPB
  go_wp2_with (first
    | ((with_reducible refine wpList_sel 19 ?_); refine wpList_val rfl (r_loadAt 26 (.tmp 2) _ _ rfl rfl (load40 HBP.out)) ?_)
    | (go_at_call 32; (with_reducible refine (H78.out w0 (kept_tab.below HRR.out HB0.out)).mono ?_); rintro e w1 ⟨⟨y, rfl⟩, hb⟩
       have HB1 := Lib.hid hb
       obtain ⟨⟨p1, q1⟩, x1⟩ := HBX.out _ hb
       have HX1 := Lib.hid x1
       clear hb x1)
    | (go_at_call 24; (with_reducible refine (H68.out _ (kept_tab.below HTT.out (HB0.out.trans (HB1.out.mono HB0.out.size)))).mono ?_); rintro e w2 ⟨⟨vr, bm, vl, rfl, hS⟩, hb⟩
       obtain ⟨Aq, cq, rfl⟩ := Tab.form hS.reps
       obtain ⟨base, hl⟩ := hS.list
       obtain ⟨Al, cl, rfl⟩ := OwnP.form hl
       have HN2 := Lib.hid (heap_alloc_new w2 (.cells zero95 66))
       have HB2 := Lib.hid (HB1.out.trans (hb.mono HB1.out.size))
       have HS := Lib.hid hS
       have HNS := Lib.hid (setRow_heap (w2.alloc (.cells zero95 66)) w2.heap.size zero95 #[.slice At t.length ct, .slice Aq (reps t).length cq, .map (some bm), .slice Al (pairs t (reps t) g).length cl] 66 (0, 0) HN2.out)
       have HB3 := Lib.hid (HB2.out.trans ((below_boxed (Below.refl w2.heap.size w2) (.cells zero95 66) #[.slice At t.length ct, .slice Aq (reps t).length cq, .map (some bm), .slice Al (pairs t (reps t) g).length cl]).mono HB2.out.size))
       have HX3 := Lib.hid (HBX.out _ HB3.out).2
       clear hb hS hl p1 q1)
    | ((with_reducible refine wpList_sel 8 ?_); refine wpList_val rfl (r_alloc95 rfl) ?_; refine wpList_skip rfl (r_store95 (.tmp 8) (.tmp 32) rfl w2.heap.size zero95 #[.slice At t.length ct, .slice Aq (reps t).length cq, .map (some bm), .slice Al (pairs t (reps t) g).length cl] rfl rfl HN2.out rfl rfl (one95 _ _ _ _ _ _ _ _ _ _)) ?_)
    | ((with_reducible refine wpList_sel 39 ?_); refine wpList_val rfl (r_loadAt 26 (.tmp 2) _ _ rfl rfl (load40 HX3.out.1)) ?_)
    | (go_at_call 40; (with_reducible refine (H35.out _ (kept_tab.below HRR.out (HB0.out.trans (HB3.out.mono HB0.out.size))) (kept_tab.below HTT.out (HB0.out.trans (HB3.out.mono HB0.out.size)))).mono ?_); rintro e w4 ⟨rfl, hb⟩
       have HB4 := Lib.hid (HB3.out.trans (hb.mono HB3.out.size))
       have HX4 := Lib.hid (HBX.out _ HB4.out).2
       have HBS : Hid (w4.heap[w2.heap.size]? = some (.cells #[.slice At t.length ct, .slice Aq (reps t).length cq, .map (some bm), .slice Al (pairs t (reps t) g).length cl] 66 (0, 0))) := Lib.hid ((hb.block _ (Array.getElem?_eq_some_iff.1 HNS.out).1).trans HNS.out)
       have HS4 := Lib.hid ((HS.out.below (below_boxed (Below.refl w2.heap.size w2) (.cells zero95 66) #[.slice At t.length ct, .slice Aq (reps t).length cq, .map (some bm), .slice Al (pairs t (reps t) g).length cl])).below hb)
       have hx4 := (box_cells HBS.out).2.2.2
       clear hb)
    | ((with_reducible refine wpList_sel 57 ?_); refine wpList_val rfl (r_build40m (.tmp 56) _ rfl rfl) ?_; refine wpList_val rfl (r_alloc40 rfl) ?_; refine wpList_skip rfl (r_store40 (.tmp 12) (.tmp 57) rfl w4.heap.size zero40 #[.int .i64 ((pairs t (reps t) g).length : Int), .slice none 0 0] rfl rfl (heap_alloc_new w4 _) rfl rfl (one40 _ _ _ _)) ?_))
  have HP0 := Lib.hid (PrSt.first w4 ((pairs t (reps t) g).length : Int))
  have HW4 := Lib.hid (HB0.out.trans (HB4.out.mono HB0.out.size))
  have HLT4 := Lib.hid HX4.out.2.2
  have HTB4 := Lib.hid (kept_tab.below HRR.out HW4.out)
  generalize hm : ((pairs t (reps t) g).length : Int) = m at *
  generalize hwz : (w4.alloc (.cells zero40 26)).setRow w4.heap.size #[.int .i64 m, .slice none 0 0] = wz at *
  clear hwz hx4 HNS HN2 HS HB1 HB2 HB3 HX1 HX3 HTT
  go_loopw [13, 60] (fun l i wr => ∃ r : Nat, i = .int .i64 r ∧ r ≤ t.length ∧ ∃ s : Nat, l = .int .i64 (4000 - (s : Int)) ∧ s ≤ 4000 ∧ Hid (s = lens (relTo t (reps t) g rels r) ∧ (relTo t (reps t) g rels r).length ≤ 100) ∧ Hid (∃ F A c, PrSt F w4 m wr A c (relTo t (reps t) g rels r))) (fun _ i _ => t.length - (intOf i).toNat)
  case atStart => exact ⟨0, rfl, by omega, 0, rfl, by omega, Lib.hid ⟨rfl, by simp [relTo]⟩, Lib.hid ⟨_, _, _, HP0.out⟩⟩
  case round =>
    clear HP0
    obtain ⟨r, rfl, hr, s, rfl, hs, HK, HST⟩ := hrel
    have hr0 : (0 : Int) ≤ (r : Int) := Int.natCast_nonneg _
    have hs0 : (0 : Int) ≤ (s : Int) := Int.natCast_nonneg _
    have hbz : Below w4.heap.size w4 wr := by obtain ⟨F, A, c, h⟩ := HST.out; exact h.out.below
    obtain ⟨⟨p5, q5⟩, x5⟩ := HBX.out wr (HB4.out.trans (hbz.mono HB4.out.size))
    have HX5 := Lib.hid x5
    clear hbz x5
    by_cases hrl : r < t.length
    · have hrl' : (r : Int) < (t.length : Int) := by omega
      have HA0 := Lib.hid (relAt_zero t (reps t) g rels r)
      have HA1 := Lib.hid (relTo_succ t (reps t) g rels r)
      rename World => w6
      go_wp2_with fail
      go_loopw [13, 66] (fun l i wr => ∃ k : Nat, i = .int .i64 k ∧ k ≤ rels.length ∧ ∃ s : Nat, l = .int .i64 (4000 - (s : Int)) ∧ s ≤ 4000 ∧ Hid (s = lens (relAt t (reps t) g rels r k) ∧ (relAt t (reps t) g rels r k).length ≤ 100) ∧ Hid (∃ F A c, PrSt F w4 m wr A c (relAt t (reps t) g rels r k))) (fun _ i _ => rels.length - (intOf i).toNat)
      case atStart => exact ⟨0, rfl, by omega, s, rfl, hs, by rw [HA0.out]; exact HK, by rw [HA0.out]; exact HST⟩
      case round =>
        clear HK HST hs hs0 p5 q5 HX5
        obtain ⟨k, rfl, hk, s, rfl, hs, HK, HST⟩ := hrel
        have hk0 : (0 : Int) ≤ (k : Int) := Int.natCast_nonneg _
        have hs0 : (0 : Int) ≤ (s : Int) := Int.natCast_nonneg _
        have hs1 : (s : Int) ≤ 4000 := by omega
        obtain ⟨F, A, c, hP⟩ := HST.out
        have hbz := hP.out.below
        obtain ⟨⟨p5, q5⟩, x5⟩ := HBX.out wr (HB4.out.trans (hbz.mono HB4.out.size))
        have HX5 := Lib.hid x5
        have HP := Lib.hid hP
        have HBZ := Lib.hid hbz
        clear HST hP x5 hbz
        by_cases hlt : k < rels.length
        · have hlt' : (k : Int) < (rels.length : Int) := by omega
          obtain ⟨b, o, rfl, hcc⟩ := HRC.out (by omega)
          obtain ⟨u, hu, hI⟩ := hcc k hlt
          have hu' := ((HW4.out.trans (HBZ.out.mono HW4.out.size)).cell (p := ⟨b, o + k, none⟩) (World.block_lt_of_cell? w _ hu)).trans hu
          have HI := Lib.hid (hI.below (HW4.out.trans (HBZ.out.mono HW4.out.size)))
          obtain ⟨Au, cu, rfl, -, -, -⟩ := hI.open_
          obtain ⟨hlets, hl4⟩ := HRL.out k hlt
          have HBS5 : Hid (wr.heap[w2.heap.size]? = some (.cells #[.slice At t.length ct, .slice Aq (reps t).length cq, .map (some bm), .slice Al (pairs t (reps t) g).length cl] 66 (0, 0))) := Lib.hid ((HBZ.out.block _ (Array.getElem?_eq_some_iff.1 HBS.out).1).trans HBS.out)
          have h76 := callsIn_wide.1 (rewrite76_in 0 wr (.slice At t.length ct) (.slice Aq (reps t).length cq) bm (.slice Al (pairs t (reps t) g).length cl) (.slice Au (rels.getD k []).length cu) g t (reps t) r (rels.getD k []) (HS4.out.below HBZ.out) HG.out HSTD.out hrl HI.out hlets (by omega))
          have HMS := Lib.hid (Mild.fits (rwW_mild HG.out HSTD.out (reps t) hlets hrl))
          have hxl : (rwW t (reps t) g r (rels.getD k [])).length ≤ 4000 := by
            have h1 := red_length (rwTo t (reps t) g (rels.getD k []) r (rels.getD k []).length).2
            have h2 := rwTo_len t (reps t) g (rels.getD k []) r (rels.getD k []).length
            unfold rwW
            omega
          have HSU := Lib.hid (relAt_succ t (reps t) g rels r k)
          have HPX : Hid (tooLong (relAt t (reps t) g rels r (k + 1)) = true → presentE g rels t = ((0, []), 4)) := Lib.hid fun h => HE1.out (tooLong_pre (relAt_pre t (reps t) g rels hrl (show k + 1 ≤ rels.length from hlt)) h)
          have H76 := Lib.hid h76
          clear hcc hu hI h76 hlets hl4
          unfold RwPost at H76
          generalize rwW t (reps t) g r (rels.getD k []) = x at *
          generalize hacc2 : relAt t (reps t) g rels r (k + 1) = acc2 at *
          have HACC2 := Lib.hid hacc2
          clear hacc2
          generalize relAt t (reps t) g rels r k = acc at *
          generalize rels.getD k [] = ws at *
          have hx0 : (0 : Int) ≤ (x.length : Int) := Int.natCast_nonneg _
          by_cases hx : x.length = 0
          · have hxn : x = [] := List.length_eq_zero_iff.1 hx
            subst hxn
            have HSU2 : Hid (acc2 = acc) := Lib.hid (by rw [HSU.out, if_neg (by simp)])
            clear hx hx0 hxl
            go_wp2_with (first
              | ((with_reducible refine wpList_sel 70 ?_); refine wpList_val rfl (r_load95 (.tmp 8) w2.heap.size _ _ _ _ rfl rfl HBS5.out) ?_)
              | (go_at_call 41; (with_reducible refine H76.out.mono ?_); rintro e w7 ⟨A7, c7, rfl, ho, hb⟩
                 have HP7 := Lib.hid (HP.out.below' hb)
                 clear ho hb))
            go_roundw
            case rel => exact ⟨k + 1, by go_num, by omega, s, rfl, hs, by rw [HACC2.out, HSU2.out]; exact HK, Lib.hid ⟨F, A, c, by rw [HACC2.out, HSU2.out]; exact HP7.out⟩⟩
            case measure => simp [intOf]; omega
          · have hx1 : (0 : Int) < (x.length : Int) := by omega
            have hx2 : ((x.length : Int) == 0) = false := by rw [beq_eq_false_iff_ne]; omega
            have hxl' : (x.length : Int) ≤ 4000 := by omega
            have HSU2 : Hid (acc2 = acc ++ [x]) := Lib.hid (by rw [HSU.out, if_pos (by omega)])
            have HLN : Hid (lens acc2 = s + x.length ∧ acc2.length = acc.length + 1) := Lib.hid (by rw [HSU2.out, lens_append, lens_one, ← HK.out.1]; simp)
            by_cases hov : 4000 < s + x.length
            · have hov' : (4000 : Int) - (s : Int) - (x.length : Int) < 0 := by omega
              have HE := Lib.hid (HPX.out (tooLong_true.2 (.inr (by rw [HLN.out.1]; exact hov))))
              clear hov hx
              go_wp2_with (first
                | ((with_reducible refine wpList_sel 70 ?_); refine wpList_val rfl (r_load95 (.tmp 8) w2.heap.size _ _ _ _ rfl rfl HBS5.out) ?_)
                | (go_at_call 41; (with_reducible refine H76.out.mono ?_); rintro e w7 ⟨A7, c7, rfl, ho, hb⟩
                   have HB7 := Lib.hid ((HB4.out.trans (HBZ.out.mono HB4.out.size)).trans (hb.mono (HB4.out.trans (HBZ.out.mono HB4.out.size)).size))
                   have HX7 := Lib.hid (HBX.out _ HB7.out).2
                   clear ho hb)
                | ((with_reducible refine wpList_sel 89 ?_); refine wpList_val rfl (r_build40 rfl) ?_; refine wpList_skip rfl (r_store40 (.tmp 4) (.tmp 89) rfl (w.heap.size + 1) zero40 zero40 rfl rfl HX7.out.2.1 rfl rfl zero40_one) ?_))
              try simp only [Exit.inBlock, Exit.then]
              refine bodyPost_ret (results_40_tmp (p := 4) (q := 5) rfl _ _ (w.heap.size + 1) zero40 (.int .i64 4) rfl rfl (setRow_heap _ _ _ _ _ _ HX7.out.2.1) rfl) rfl ⟨⟨.slice none 0 0, by rw [HE.out]; rfl, by rw [HE.out]; exact tab_nil⟩, below_setRow (HB0.out.trans (HB7.out.mono HB0.out.size)) (Nat.le_succ _) _⟩
            · have hov' : ¬ (4000 : Int) - (s : Int) - (x.length : Int) < 0 := by omega
              have hsx : s + x.length ≤ 4000 := by omega
              clear hov
              by_cases h100 : acc.length = 100
              · have HE := Lib.hid (HPX.out (tooLong_true.2 (.inl (by rw [HLN.out.2, h100]; omega))))
                have H100 := Lib.hid h100
                clear hx h100
                go_wp2_with (first
                  | ((with_reducible refine wpList_sel 70 ?_); refine wpList_val rfl (r_load95 (.tmp 8) w2.heap.size _ _ _ _ rfl rfl HBS5.out) ?_)
                  | (go_at_call 41; (with_reducible refine H76.out.mono ?_); rintro e w7 ⟨A7, c7, rfl, ho, hb⟩
                     have HB7 := Lib.hid ((HB4.out.trans (HBZ.out.mono HB4.out.size)).trans (hb.mono (HB4.out.trans (HBZ.out.mono HB4.out.size)).size))
                     have HX7 := Lib.hid (HBX.out _ HB7.out).2
                     have hp10 := (cell_of2 (HP.out.below' hb).box).2
                     rw [H100.out] at hp10
                     clear ho hb)
                  | ((with_reducible refine wpList_sel 89 ?_); refine wpList_val rfl (r_build40 rfl) ?_; refine wpList_skip rfl (r_store40 (.tmp 4) (.tmp 89) rfl (w.heap.size + 1) zero40 zero40 rfl rfl HX7.out.2.1 rfl rfl zero40_one) ?_))
                try simp only [Exit.inBlock, Exit.then]
                refine bodyPost_ret (results_40_tmp (p := 4) (q := 5) rfl _ _ (w.heap.size + 1) zero40 (.int .i64 4) rfl rfl (setRow_heap _ _ _ _ _ _ HX7.out.2.1) rfl) rfl ⟨⟨.slice none 0 0, by rw [HE.out]; rfl, by rw [HE.out]; exact tab_nil⟩, below_setRow (HB0.out.trans (HB7.out.mono HB0.out.size)) (Nat.le_succ _) _⟩
              · have h100' : ((acc.length : Int) == 100) = false := by rw [beq_eq_false_iff_ne]; omega
                have hal : acc.length ≤ 99 := by have := HK.out.2; omega
                have HAL := Lib.hid hal
                clear hx h100 hal
                generalize hal : acc.length = al at *
                have HALE := Lib.hid hal
                clear hal
                go_wp2_with (first
                  | ((with_reducible refine wpList_sel 70 ?_); refine wpList_val rfl (r_load95 (.tmp 8) w2.heap.size _ _ _ _ rfl rfl HBS5.out) ?_)
                  | (go_at_call 41; (with_reducible refine H76.out.mono ?_); rintro e w7 ⟨A7, c7, rfl, ho, hb⟩
                     have hp10 := (cell_of2 (HP.out.below' hb).box).2
                     rw [HALE.out] at hp10
                     obtain ⟨A8, c8, w8, hr8, ⟨hc8, hf8⟩, hP8⟩ := HP.out.push hb ho HMS.out (by have := HAL.out; rw [HALE.out]; omega)
                     rw [HALE.out] at hr8 hc8 hP8
                     rw [← HSU2.out] at hP8
                     have HR8 := Lib.hid hr8
                     have HP8 := Lib.hid hP8
                     clear ho hb hr8 hP8)
                  | ((with_reducible refine wpList_sel 94 ?_); refine wpList_val rfl (r_app (.tmp 91) (.tmp 93) 24 rfl rfl rfl HR8.out) ?_))
                go_roundw
                case rel => exact ⟨k + 1, by go_num, by omega, s + x.length, congrArg (Value.int .i64) (by omega), hsx, Lib.hid ⟨by rw [HACC2.out]; exact HLN.out.1.symm, by rw [HACC2.out, HLN.out.2]; have := HAL.out; have := HALE.out; omega⟩, Lib.hid ⟨_, _, _, by rw [HACC2.out]; exact HP8.out⟩⟩
                case measure => simp [intOf]; omega
        · obtain rfl : k = rels.length := by omega
          rename World => w9
          go_wp2_with fail
          go_roundw
          case rel => exact ⟨r + 1, by go_num, by omega, s, rfl, hs, by rw [HA1.out]; exact HK, Lib.hid ⟨F, A, c, by rw [HA1.out]; exact HP.out⟩⟩
          case measure => simp [intOf]; omega
    · obtain rfl : r = t.length := by omega
      rename World => w9
      obtain ⟨F, A, c, hP⟩ := HST.out
      have HE := Lib.hid (HE2.out (tooLong_false.2 ⟨HK.out.2, by rw [← HK.out.1]; exact hs⟩))
      have HP := Lib.hid hP
      have HTAB := Lib.hid hP.out.tabB
      have HBZ := Lib.hid hP.out.below
      clear HST hP
      generalize hac : relTo t (reps t) g rels t.length = acc at *
      have HAC := Lib.hid hac
      clear hac
      go_wp2_with ((with_reducible refine wpList_sel 98 ?_); refine wpList_val rfl (r_loadAt 26 (.tmp 12) _ _ rfl rfl (load40 HP.out.box)) ?_; refine wpList_skip rfl (r_store40 (.tmp 4) (.tmp 98) rfl (w.heap.size + 1) zero40 #[.int .i64 m, .slice A acc.length c] rfl rfl HX5.out.2.1 rfl rfl (one40 _ _ _ _)) ?_)
      try simp only [Exit.inBlock, Exit.then]
      refine bodyPost_ret (results_40_tmp (p := 4) (q := 5) rfl _ _ (w.heap.size + 1) #[.int .i64 m, .slice A acc.length c] (.int .i64 0) rfl rfl (setRow_heap _ _ _ _ _ _ HX5.out.2.1) rfl) rfl ⟨⟨.slice A acc.length c, by rw [HE.out], by rw [HE.out]; exact HTAB.out _ fun k h1 _ => setRow_other _ _ k _ (by have := HLT4.out; omega)⟩, below_setRow ((HW4.out).trans (HBZ.out.mono HW4.out.size)) (Nat.le_succ _) _⟩
theorem present24_any (w : World) (vr vt : Value) (g : Int) (rels : List W) (t : Tb) (hR : Tab w vr rels) (ht : Tab w vt t) : Calls Tryz.prog 14 #[.agg #[.int .i64 g, vr], vt] w (PresentPost g rels t w) := by
  by_cases he : presE g rels = 0
  · obtain ⟨gn, rfl, -, -, -, -⟩ := presE_good he
    by_cases hr : (repsE gn t).2 = 0
    · obtain ⟨gm, e, hg, hstd, -⟩ := repsE_good hr
      obtain rfl : gn = gm := by omega
      cases hh : holdsB rels [] t with
      | false => exact present24_hold w vr vt gn rels t hR ht he hg hstd hh
      | true =>
        by_cases hm : 16 < (pairs t (reps t) gn).length
        · exact present24_over w vr vt gn rels t hR ht he hg hstd hh hm
        · exact present24_good w vr vt gn rels t hR ht he hg hstd hh hm
    · exact present24_reps w vr vt gn rels t hR ht he hr
  · exact present24_pres w vr vt g rels t hR ht he
end Go.Proofs
namespace Go.Proofs
open Go.RowKit Go.Shelf Go.Proofs.Ct Go.Maps
theorem tab_one {w : World} {v : Value} {x : List Int} (h : IntsAt w v x) : Tab (w.alloc (.cells #[v] 22)) (.slice (some ⟨w.heap.size, 0, none⟩) 1 1) [x] := by
  have hb : Below w.heap.size w (w.alloc (.cells #[v] 22)) := (Below.refl _ _).alloc (Nat.le_refl _) _
  refine ⟨[v], ⟨some ⟨w.heap.size, 0, none⟩, 1, 1, rfl, rfl, Nat.le_refl _, by simp [maxLen], fun _ => ⟨w.heap.size, 0, rfl, fun j u hu => ?_⟩⟩, rfl, fun i hi => ?_⟩
  · rw [cell_of_row _ _ _ _ _ _ (heap_alloc_new w _), Nat.zero_add]
    simpa using hu
  · have : i = 0 := by simpa using hi
    subst this
    first | exact h.below hb | exact ⟨v, rfl, h.below hb⟩
set_option maxRecDepth 100000 in
set_option maxHeartbeats 400000 in
theorem equal23_any (w : World) (u v : Value) (x y : List Int) (hu : IntsAt w u x) (hv : IntsAt w v y) : Calls Tryz.prog 17 #[u, v] w fun e w' => e = .returned (.bool (decide (x = y))) ∧ Below w.heap.size w w' := by
  have hb1 : Below w.heap.size w (w.alloc (.cells #[u] 22)) := (Below.refl _ _).alloc (Nat.le_refl _) _
  have hb2 : Below (w.alloc (.cells #[u] 22)).heap.size (w.alloc (.cells #[u] 22)) ((w.alloc (.cells #[u] 22)).alloc (.cells #[v] 22)) := (Below.refl _ _).alloc (Nat.le_refl _) _
  have hb : Below w.heap.size w ((w.alloc (.cells #[u] 22)).alloc (.cells #[v] 22)) := hb1.trans (hb2.mono hb1.size)
  have hc := same18_any ((w.alloc (.cells #[u] 22)).alloc (.cells #[v] 22)) _ _ [x] [y] (kept_tab.below (tab_one hu) hb2) (tab_one (hv.below hb1))
  rw [World.size_alloc] at hc
  have HC := Lib.hid hc
  have HB := Lib.hid hb
  have HD : Hid (decide ([x] = [y]) = decide (x = y)) := Lib.hid (by simp)
  obtain ⟨A, c, rfl, -, -, -⟩ := hu.open_
  obtain ⟨A', c', rfl, -, -, -⟩ := hv.open_
  clear hu hv hb1 hb2 hb hc
  generalize decide ([x] = [y]) = b at *
  generalize decide (x = y) = b' at *
  go_enter Tryz.func17, Tryz.ntmps17
  go_wp2_with (go_at_call 12; (refine HC.out.mono ?_); rintro e w' ⟨rfl, q, rfl⟩)
  go_ret
  exact ⟨ret_bool HD.out, below_drewN HB.out _⟩
end Go.Proofs
namespace Go.Proofs
open Go.RowKit Go.Shelf Go.Proofs.Ct Go.Maps
set_option maxRecDepth 100000 in
set_option maxHeartbeats 1000000 in
theorem same22_any (w : World) (va vb : Value) (A B : List (List Int)) (ha : Tab w va A) (hb : Tab w vb B) :
    Calls Tryz.prog 45 #[va, vb] w fun e w' => e = .returned (.bool (decide (A = B))) ∧ Below w.heap.size w w' := by
  obtain ⟨A0, ca, rfl, ha1, ha2, ha3⟩ := ha.open_
  obtain ⟨B0, cb, rfl, hb1, hb2, hb3⟩ := hb.open_
  have HA := Lib.hid ha3
  have HB := Lib.hid hb3
  clear ha hb ha3 hb3
  by_cases hl : A.length = B.length
  · have d1 : ((A.length : Int) != (B.length : Int)) = false := by simp; omega
    have d2 : (A.length != B.length) = false := by simp; omega
    have HL := Lib.hid hl
    clear hl
    go_enter Tryz.func45, Tryz.ntmps45
    go_wp2_with fail
    go_loopw [5] (fun i wr => ∃ k : Nat, k ≤ A.length ∧ i = .int .i64 k ∧ Hid (∀ j, j < k → A.getD j [] = B.getD j []) ∧ Hid (Below w.heap.size w wr)) (fun i _ => A.length - (intOf i).toNat)
    case atStart => exact ⟨0, Nat.zero_le _, rfl, Lib.hid fun j hj => absurd hj (by omega), Lib.hid (Below.refl _ _)⟩
    case round =>
      obtain ⟨k, hk, rfl, HZ, HBW⟩ := hrel
      by_cases hlt : k < A.length
      · obtain ⟨b1, o1, rfl, hc1⟩ := HA.out (by omega)
        obtain ⟨b2, o2, rfl, hc2⟩ := HB.out (by rw [← HL.out]; omega)
        obtain ⟨u1, hu1, hr1⟩ := hc1 k hlt
        obtain ⟨u2, hu2, hr2⟩ := hc2 k (by rw [← HL.out]; omega)
        have HR1 := Lib.hid hr1
        have HR2 := Lib.hid hr2
        have hk0 : (0 : Int) ≤ (k : Int) := Int.natCast_nonneg _
        have hkb : (k : Int) < (B.length : Int) := by rw [← HL.out]; omega
        have hka : (k : Int) < (A.length : Int) := by omega
        have HN : Hid (A.getD k [] ≠ B.getD k [] → A ≠ B) := Lib.hid (fun h => getD_ne (A := A) (B := B) (d := []) (k := k) h)
        have HK : Hid (A.getD k [] = B.getD k [] → ∀ j, j < k + 1 → A.getD j [] = B.getD j []) := Lib.hid (fun h => all_succ HZ.out h)
        have HSS : Hid (∀ w', Below w.heap.size w w' → w'.cell? ⟨b1, o1 + k, none⟩ = some u1 ∧ w'.cell? ⟨b2, o2 + k, none⟩ = some u2) := Lib.hid fun w' h => ⟨(h.cell (p := ⟨b1, o1 + k, none⟩) (World.block_lt_of_cell? w _ hu1)).trans hu1, (h.cell (p := ⟨b2, o2 + k, none⟩) (World.block_lt_of_cell? w _ hu2)).trans hu2⟩
        obtain ⟨A3, c3, rfl, hd1, hd2, -⟩ := hr1.open_
        obtain ⟨A4, c4, rfl, he1, he2, -⟩ := hr2.open_
        clear hc1 hc2 hr1 hr2 hu1 hu2
        generalize A.getD k [] = x at *
        generalize B.getD k [] = y at *
        by_cases hxy : x = y
        · have HE : Hid (decide (x = y) = true) := Lib.hid (decide_eq_true hxy)
          have HK2 := Lib.hid (HK.out hxy)
          clear hxy HN HK
          go_wp2_with fail
          have HW : Hid (Below w.heap.size w wr.drew) := Lib.hid HBW.out.drew
          go_region_held3 (fun w' => w'.cell? ⟨b1, o1 + k, none⟩ = some (.slice A3 x.length c3) ∧ w'.cell? ⟨b2, o2 + k, none⟩ = some (.slice A4 y.length c4)) (first | exact HSS.out _ HW.out)
            (first
            | (go_at_call 17; (refine (equal23_any _ _ _ x y (HR1.out.below HW.out) (HR2.out.below HW.out)).mono ?_); rintro e w6 ⟨rfl, hb6⟩; rw [HE.out]; have HW := Lib.hid (HW.out.trans (hb6.mono HW.out.size)); clear hb6))
          all_goals
            go_wp2_with fail
            go_roundw
            case rel => exact ⟨k + 1, by omega, by go_num, HK2, HW⟩
            case measure => simp [intOf]; omega
        · have HE : Hid (decide (x = y) = false) := Lib.hid (decide_eq_false hxy)
          have HD : Hid (decide (A = B) = false) := Lib.hid (decide_eq_false (HN.out hxy))
          clear hxy HN HK
          go_wp2_with fail
          have HW : Hid (Below w.heap.size w wr.drew) := Lib.hid HBW.out.drew
          go_region_held3 (fun w' => w'.cell? ⟨b1, o1 + k, none⟩ = some (.slice A3 x.length c3) ∧ w'.cell? ⟨b2, o2 + k, none⟩ = some (.slice A4 y.length c4)) (first | exact HSS.out _ HW.out)
            (first
            | (go_at_call 17; (refine (equal23_any _ _ _ x y (HR1.out.below HW.out) (HR2.out.below HW.out)).mono ?_); rintro e w6 ⟨rfl, hb6⟩; rw [HE.out]; have HW := Lib.hid (HW.out.trans (hb6.mono HW.out.size)); clear hb6))
          all_goals
            go_wp2_with fail
            go_ret
            exact ⟨ret_bool HD.out.symm, HW.out⟩
      · obtain rfl : k = A.length := by omega
        have HD : Hid (decide (A = B) = true) := Lib.hid (decide_eq_true (getD_ext HL.out HZ.out))
        go_wp2_with fail
        go_ret
        exact ⟨ret_bool HD.out.symm, HBW.out⟩
  · have d1 : ((A.length : Int) != (B.length : Int)) = true := by simp; omega
    have d2 : (A.length != B.length) = true := by simp; omega
    have HD : Hid (decide (A = B) = false) := Lib.hid (decide_eq_false fun h => hl (by rw [h]))
    clear hl
    go_enter Tryz.func45, Tryz.ntmps45
    go_wp2_with fail
    go_ret
    exact ⟨ret_bool HD.out.symm, Below.refl _ _⟩
theorem ints_lit (w : World) (xs : List Int) (hf : Fits xs) (n : Nat) (hn : xs.length = n) (hm : n ≤ 1000) : IntsAt (w.alloc (.cells (ints xs).toArray 3)) (.slice (some ⟨w.heap.size, 0, none⟩) n n) xs := by
  subst hn
  refine ⟨⟨_, xs.length, xs.length, rfl, by simp [ints], Nat.le_refl _, by have : xs.length ≤ 9223372036854775807 := by omega
                                                                           simpa [maxLen] using this, fun _ => ⟨w.heap.size, 0, rfl, fun j u hu => ?_⟩⟩, hf⟩
  rw [cell_of_row _ _ _ _ _ _ (heap_alloc_new w _), Nat.zero_add]
  simpa using hu
theorem tab_three (w : World) (u v z : Value) (x y q : List Int) (hu : IntsAt w u x) (hv : IntsAt w v y) (hz : IntsAt w z q) {e : TypeId} : Tab (w.alloc (.cells #[u, v, z] e)) (.slice (some ⟨w.heap.size, 0, none⟩) 3 3) [x, y, q] := by
  have hb : Below w.heap.size w (w.alloc (.cells #[u, v, z] e)) := (Below.refl _ _).alloc (Nat.le_refl _) _
  refine ⟨[u, v, z], ⟨_, 3, 3, rfl, rfl, Nat.le_refl _, by simp [maxLen], fun _ => ⟨w.heap.size, 0, rfl, fun j a ha => ?_⟩⟩, rfl, fun i hi => ?_⟩
  · rw [cell_of_row _ _ _ _ _ _ (heap_alloc_new w _), Nat.zero_add]
    simpa using ha
  · have : i = 0 ∨ i = 1 ∨ i = 2 := by simp at hi; omega
    rcases this with rfl | rfl | rfl
    · exact ⟨u, rfl, hu.below hb⟩
    · exact ⟨v, rfl, hv.below hb⟩
    · exact ⟨z, rfl, hz.below hb⟩
def halfT : List (List Int) := [[1, 1, 0, 0], [0, 0, 1, 1]]
theorem half27_any (w : World) : Calls Tryz.prog 15 #[] w fun e w' => (∃ u, e = .returned u ∧ Tab w' u halfT) ∧ Below w.heap.size w w' := by
  have h1 := ints_lit w [1, 1, 0, 0] (by unfold Fits; decide) 4 rfl (by omega)
  have hb1 : Below (w.alloc (.cells (ints [1, 1, 0, 0]).toArray 3)).heap.size (w.alloc (.cells (ints [1, 1, 0, 0]).toArray 3)) ((w.alloc (.cells (ints [1, 1, 0, 0]).toArray 3)).alloc (.cells (ints [0, 0, 1, 1]).toArray 3)) := (Below.refl _ _).alloc (Nat.le_refl _) _
  have h2 := ints_lit (w.alloc (.cells (ints [1, 1, 0, 0]).toArray 3)) [0, 0, 1, 1] (by unfold Fits; decide) 4 rfl (by omega)
  have h3 := tab_two _ _ _ _ _ (h1.below hb1) h2 (e := 22)
  have hb : Below w.heap.size w (((w.alloc (.cells (ints [1, 1, 0, 0]).toArray 3)).alloc (.cells (ints [0, 0, 1, 1]).toArray 3)).alloc (.cells #[.slice (some ⟨w.heap.size, 0, none⟩) 4 4, .slice (some ⟨(w.alloc (.cells (ints [1, 1, 0, 0]).toArray 3)).heap.size, 0, none⟩) 4 4] 22)) :=
    (((Below.refl _ _).alloc (Nat.le_refl _) _).alloc (by simp) _).alloc (by simp; omega) _
  simp only [World.size_alloc] at h3 hb
  have H3 := Lib.hid h3
  have HB := Lib.hid hb
  clear h1 hb1 h2 h3 hb
  go_enter Tryz.func15, Tryz.ntmps15
  go_wp2_with fail
  go_ret
  exact ⟨⟨_, rfl, H3.out⟩, HB.out⟩
def wakeT : List (List Int) := [[2], [1, 1], [1, 2, -1]]
theorem gens_half : gensE 2 halfT = (wakeT, 0) := by decide +kernel
theorem wake_tab (w : World) : Tab ((((w.alloc (.cells (ints [2]).toArray 3)).alloc (.cells (ints [1, 1]).toArray 3)).alloc (.cells (ints [1, 2, -1]).toArray 3)).alloc (.cells #[.slice (some ⟨w.heap.size, 0, none⟩) 1 1, .slice (some ⟨w.heap.size + 1, 0, none⟩) 2 2, .slice (some ⟨w.heap.size + 1 + 1, 0, none⟩) 3 3] 39)) (.slice (some ⟨w.heap.size + 1 + 1 + 1, 0, none⟩) 3 3) wakeT := by
  have h1 := ints_lit w [2] (by unfold Fits; decide) 1 rfl (by omega)
  have h2 := ints_lit (w.alloc (.cells (ints [2]).toArray 3)) [1, 1] (by unfold Fits; decide) 2 rfl (by omega)
  have h3 := ints_lit ((w.alloc (.cells (ints [2]).toArray 3)).alloc (.cells (ints [1, 1]).toArray 3)) [1, 2, -1] (by unfold Fits; decide) 3 rfl (by omega)
  have h4 := tab_three _ _ _ _ _ _ _ (h1.below (((Below.refl _ _).alloc (Nat.le_refl _) _).alloc (by simp) _)) (h2.below ((Below.refl _ _).alloc (Nat.le_refl _) _)) h3 (e := 39)
  simp only [World.size_alloc] at h4
  exact h4
theorem wake_below (w : World) : Below w.heap.size w ((((w.alloc (.cells (ints [2]).toArray 3)).alloc (.cells (ints [1, 1]).toArray 3)).alloc (.cells (ints [1, 2, -1]).toArray 3)).alloc (.cells #[.slice (some ⟨w.heap.size, 0, none⟩) 1 1, .slice (some ⟨w.heap.size + 1, 0, none⟩) 2 2, .slice (some ⟨w.heap.size + 1 + 1, 0, none⟩) 3 3] 39)) :=
  (((((Below.refl _ _).alloc (Nat.le_refl _) _).alloc (by simp) _).alloc (by simp; omega) _).alloc (by simp; omega) _)
set_option maxRecDepth 100000 in
set_option maxHeartbeats 1000000 in
theorem awake15_any (w : World) : Calls Tryz.prog 20 #[] w fun e w' => e = .returned (.bool true) ∧ Below w.heap.size w w' := by
  have HH := Lib.hid (half27_any w)
  have HG := Lib.hid (fun W u (h : Tab W u halfT) => (gens18_any W u 2 halfT h).mono fun e w' (⟨⟨v, h1, h2⟩, h3⟩ : GensPost 2 halfT W e w') => by
    rw [gens_half] at h1 h2
    exact (⟨⟨v, h1, h2⟩, h3⟩ : (∃ v, e = .returned (.tuple #[v, .int .i64 0]) ∧ TabB W.heap.size w' v wakeT) ∧ Below W.heap.size W w'))
  go_enter Tryz.func20, Tryz.ntmps20
  go_wp2_with (first
    | (go_at_call 15; (refine HH.out.mono ?_); rintro e w1 ⟨⟨u, rfl, hu⟩, hb⟩
       have HU := Lib.hid hu
       have HB1 := Lib.hid hb
       clear hu hb)
    | (go_at_call 9; (refine (HG.out _ _ HU.out).mono ?_); rintro e w2 ⟨⟨v, rfl, hv⟩, hb⟩
       have HV := Lib.hid hv.at_
       have HB2 := Lib.hid (HB1.out.trans (hb.mono HB1.out.size))
       obtain ⟨A, c, rfl⟩ := Tab.form HV.out
       clear hv hb)
    | (go_at_call 45; (refine (same22_any _ _ _ wakeT wakeT (kept_tab.below HV.out (wake_below w2)) (wake_tab w2)).mono ?_); rintro e w3 ⟨rfl, hb⟩
       have HB3 := Lib.hid ((HB2.out.trans ((wake_below w2).mono HB2.out.size)).trans (hb.mono (Nat.le_trans HB2.out.size (wake_below w2).size)))
       clear hb))
  go_ret
  exact ⟨rfl, HB3.out⟩
end Go.Proofs
