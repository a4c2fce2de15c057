/- rewrite.Present; A region that draws its order, with guarded operations: each operation is shown once. -/
import Derived.Test.YtmpnengjboabcaaTpCS11
import Derived.Deep.MidRow
import Derived.Deep.RegionHeld3
namespace Go.Proofs
open Go.RowKit Go.Shelf Go.Proofs.Ct Go.Maps
theorem below_setRow {B : Nat} {w w1 : World} (h : Below B w w1) {g : Nat} (hg : B ≤ g) (cs : Array Value) : Below B w (w1.setRow g cs) :=
  h.trans ⟨rfl, rfl, rfl, by rw [World.setRow]; simp, fun k hk => setRow_other _ _ k _ (by omega)⟩
theorem holdsE_good {g : Nat} {rels : List W} {t : Tb} (h1 : presE g rels = 0) (h2 : (check g t).1 = 0) : holdsE g rels [] t = (holdsB rels [] t, 0) := by
  unfold holdsE
  rw [if_neg (by rw [h1]; simp), if_neg (by simp), if_neg (by rw [h2]; simp)]
set_option maxRecDepth 100000 in
set_option maxHeartbeats 4000000 in
theorem present24_pres (w : World) (vr vt : Value) (g : Int) (rels : List W) (t : Tb) (hR : Tab w vr rels) (ht : Tab w vt t) (he : presE g rels ≠ 0) : Calls Try.prog 32 #[.agg #[.int .i64 g, vr], vt] w (PresentPost g rels t w) := by
  obtain ⟨Ar, cr, rfl⟩ := Tab.form hR
  obtain ⟨At, ct, rfl⟩ := Tab.form ht
  have H78 : Hid (∀ W, Tab W (.slice Ar rels.length cr) rels → Calls Try.prog 102 #[.agg #[.int .i64 g, .slice Ar rels.length cr]] W fun e w' => (∃ y, e = .returned (.tuple #[.int .i64 (presE g rels), .int .i64 y])) ∧ Below W.heap.size W w') := Lib.hid fun W h => pcheck78_any W _ _ rels h
  have HE : Hid (presentE g rels t = ((0, []), presE g rels)) := Lib.hid (by unfold presentE; rw [if_pos he])
  have d1 : (presE g rels != 0) = true := by simpa using he
  generalize presE g rels = x at *
  clear he
  have HPB : Hid (∀ w0 : World, w0 = (w.alloc (.cells #[.int .i64 g, .slice Ar rels.length cr] 40)).alloc (.cells zero40 40) → Below w.heap.size w w0 ∧ w0.heap.size = w.heap.size + 2 ∧ w0.heap[w.heap.size]? = some (.cells #[.int .i64 g, .slice Ar rels.length cr] 40 (0, 0)) ∧ w0.heap[w.heap.size + 1]? = some (.cells zero40 40 (0, 0))) := Lib.hid fun w0 h => by
    subst h
    refine ⟨((Below.refl _ _).alloc (Nat.le_refl _) _).alloc (by simp) _, by simp, ?_, ?_⟩
    · exact (Below.heap_alloc (w.alloc _) _ w.heap.size (by simp)).trans (heap_alloc_new w _)
    · have := heap_alloc_new (w.alloc (.cells #[.int .i64 g, .slice Ar rels.length cr] 40)) (.cells zero40 40); rwa [World.size_alloc] at this
  have HRR := Lib.hid hR
  have HTT := Lib.hid ht
  clear hR ht
  go_enter Try.func32, Try.ntmps32
  go_wp2_with ((with_reducible refine wpList_sel 4 ?_); refine wpList_val rfl (r_alloc40 rfl) ?_)
  generalize hw0 : (w.alloc (.cells #[.int .i64 g, .slice Ar rels.length cr] 40)).alloc (.cells zero40 40) = w0 at *
  obtain ⟨hb0, hsz, hbp, hbr⟩ := HPB.out w0 rfl
  have HB0 := Lib.hid hb0
  have HSZ := Lib.hid hsz
  have HBP := Lib.hid hbp
  have HBX : Hid (∀ W, Below w0.heap.size w0 W → (W.cell? ⟨w.heap.size, 0, none⟩ = some (.int .i64 g) ∧ W.cell? ⟨w.heap.size, 1, none⟩ = some (.slice Ar rels.length cr)) ∧ W.heap[w.heap.size]? = some (.cells #[.int .i64 g, .slice Ar rels.length cr] 40 (0, 0)) ∧ W.heap[w.heap.size + 1]? = some (.cells zero40 40 (0, 0)) ∧ w.heap.size + 1 < W.heap.size) := Lib.hid fun W h => by
    have h1 := (h.block _ (Array.getElem?_eq_some_iff.1 hbp).1).trans hbp
    have h2 := (h.block _ (Array.getElem?_eq_some_iff.1 hbr).1).trans hbr
    exact ⟨cell_of2 h1, h1, h2, (Array.getElem?_eq_some_iff.1 h2).1⟩
  clear hw0 hb0 hsz hbp hbr HPB
  go_wp2_with (first
    | ((with_reducible refine wpList_sel 19 ?_); refine wpList_val rfl (r_loadAt 40 (.tmp 2) _ _ rfl rfl (load40 HBP.out)) ?_)
    | (go_at_call 102; (with_reducible refine (H78.out w0 (kept_tab.below HRR.out HB0.out)).mono ?_); rintro e w1 ⟨⟨y, rfl⟩, hb⟩
       have HB1 := Lib.hid hb
       obtain ⟨⟨p1, q1⟩, x1⟩ := HBX.out _ hb
       have HX1 := Lib.hid x1
       clear hb x1)
    | ((with_reducible refine wpList_sel 25 ?_); refine wpList_val rfl (r_build40 rfl) ?_; refine wpList_val rfl (r_move (.tmp 6) rfl rfl) ?_; refine wpList_skip rfl (r_store40 (.tmp 4) (.tmp 25) rfl (w.heap.size + 1) zero40 zero40 rfl rfl HX1.out.2.1 rfl rfl zero40_one) ?_))
  try simp only [Exit.inBlock, Exit.then]
  refine bodyPost_ret (results_40_tmp (p := 4) (q := 5) rfl _ _ (w.heap.size + 1) zero40 (.int .i64 x) rfl rfl (setRow_heap _ _ _ _ _ _ HX1.out.2.1) rfl) rfl ⟨⟨.slice none 0 0, by rw [HE.out]; rfl, by rw [HE.out]; exact tab_nil⟩, below_setRow (HB0.out.trans (HB1.out.mono HB0.out.size)) (Nat.le_succ _) _⟩
set_option maxRecDepth 100000 in
set_option maxHeartbeats 4000000 in
theorem present24_reps (w : World) (vr vt : Value) (g : Nat) (rels : List W) (t : Tb) (hR : Tab w vr rels) (ht : Tab w vt t) (he : presE g rels = 0) (hr : (repsE g t).2 ≠ 0) : Calls Try.prog 32 #[.agg #[.int .i64 (g : Int), vr], vt] w (PresentPost g rels t w) := by
  obtain ⟨Ar, cr, rfl⟩ := Tab.form hR
  obtain ⟨At, ct, rfl⟩ := Tab.form ht
  have H78 : Hid (∀ W, Tab W (.slice Ar rels.length cr) rels → Calls Try.prog 102 #[.agg #[.int .i64 (g : Int), .slice Ar rels.length cr]] W fun e w' => (∃ y, e = .returned (.tuple #[.int .i64 (presE (g : Int) rels), .int .i64 y])) ∧ Below W.heap.size W w') := Lib.hid fun W h => pcheck78_any W _ _ rels h
  have H68 : Hid (∀ W, Tab W (.slice At t.length ct) t → Calls Try.prog 92 #[.int .i64 (g : Int), .slice At t.length ct] W fun e w' => e = .returned (.tuple #[.agg zero95, .int .i64 (repsE g t).2]) ∧ Below W.heap.size W w') := Lib.hid fun W h => of68_bad W _ g t h hr
  have HE : Hid (presentE g rels t = ((0, []), (repsE g t).2)) := Lib.hid (by unfold presentE; rw [if_neg (by rw [he]; simp), if_pos hr])
  have d1 : ((repsE g t).2 != 0) = true := by simpa using hr
  rw [he] at H78
  generalize (repsE g t).2 = x at *
  clear he hr
  have HPB : Hid (∀ w0 : World, w0 = (w.alloc (.cells #[.int .i64 (g : Int), .slice Ar rels.length cr] 40)).alloc (.cells zero40 40) → Below w.heap.size w w0 ∧ w0.heap.size = w.heap.size + 2 ∧ w0.heap[w.heap.size]? = some (.cells #[.int .i64 (g : Int), .slice Ar rels.length cr] 40 (0, 0)) ∧ w0.heap[w.heap.size + 1]? = some (.cells zero40 40 (0, 0))) := Lib.hid fun w0 h => by
    subst h
    refine ⟨((Below.refl _ _).alloc (Nat.le_refl _) _).alloc (by simp) _, by simp, ?_, ?_⟩
    · exact (Below.heap_alloc (w.alloc _) _ w.heap.size (by simp)).trans (heap_alloc_new w _)
    · have := heap_alloc_new (w.alloc (.cells #[.int .i64 (g : Int), .slice Ar rels.length cr] 40)) (.cells zero40 40); rwa [World.size_alloc] at this
  have HRR := Lib.hid hR
  have HTT := Lib.hid ht
  clear hR ht
  go_enter Try.func32, Try.ntmps32
  go_wp2_with ((with_reducible refine wpList_sel 4 ?_); refine wpList_val rfl (r_alloc40 rfl) ?_)
  generalize hw0 : (w.alloc (.cells #[.int .i64 (g : Int), .slice Ar rels.length cr] 40)).alloc (.cells zero40 40) = w0 at *
  obtain ⟨hb0, hsz, hbp, hbr⟩ := HPB.out w0 rfl
  have HB0 := Lib.hid hb0
  have HSZ := Lib.hid hsz
  have HBP := Lib.hid hbp
  have HBX : Hid (∀ W, Below w0.heap.size w0 W → (W.cell? ⟨w.heap.size, 0, none⟩ = some (.int .i64 (g : Int)) ∧ W.cell? ⟨w.heap.size, 1, none⟩ = some (.slice Ar rels.length cr)) ∧ W.heap[w.heap.size]? = some (.cells #[.int .i64 (g : Int), .slice Ar rels.length cr] 40 (0, 0)) ∧ W.heap[w.heap.size + 1]? = some (.cells zero40 40 (0, 0)) ∧ w.heap.size + 1 < W.heap.size) := Lib.hid fun W h => by
    have h1 := (h.block _ (Array.getElem?_eq_some_iff.1 hbp).1).trans hbp
    have h2 := (h.block _ (Array.getElem?_eq_some_iff.1 hbr).1).trans hbr
    exact ⟨cell_of2 h1, h1, h2, (Array.getElem?_eq_some_iff.1 h2).1⟩
  clear hw0 hb0 hsz hbp hbr HPB
  go_wp2_with (first
    | ((with_reducible refine wpList_sel 19 ?_); refine wpList_val rfl (r_loadAt 40 (.tmp 2) _ _ rfl rfl (load40 HBP.out)) ?_)
    | (go_at_call 102; (with_reducible refine (H78.out w0 (kept_tab.below HRR.out HB0.out)).mono ?_); rintro e w1 ⟨⟨y, rfl⟩, hb⟩
       have HB1 := Lib.hid hb
       obtain ⟨⟨p1, q1⟩, x1⟩ := HBX.out _ hb
       have HX1 := Lib.hid x1
       clear hb x1)
    | (go_at_call 92; (with_reducible refine (H68.out _ (kept_tab.below HTT.out (HB0.out.trans (HB1.out.mono HB0.out.size)))).mono ?_); rintro e w2 ⟨rfl, hb⟩
       have HN2 := Lib.hid (heap_alloc_new w2 (.cells zero95 102))
       have HB2 := Lib.hid (HB1.out.trans (hb.mono HB1.out.size))
       have HB3 := Lib.hid (HB2.out.trans ((below_boxed (Below.refl w2.heap.size w2) (.cells zero95 102) zero95).mono HB2.out.size))
       have HX3 := Lib.hid (HBX.out _ HB3.out).2
       clear hb p1 q1)
    | ((with_reducible refine wpList_sel 8 ?_); refine wpList_val rfl (r_alloc95 rfl) ?_; refine wpList_skip rfl (r_store95 (.tmp 8) (.tmp 32) rfl w2.heap.size zero95 zero95 rfl rfl HN2.out rfl rfl zero95_one) ?_)
    | ((with_reducible refine wpList_sel 36 ?_); refine wpList_val rfl (r_build40 rfl) ?_; refine wpList_val rfl (r_move (.tmp 9) rfl rfl) ?_; refine wpList_skip rfl (r_store40 (.tmp 4) (.tmp 36) rfl (w.heap.size + 1) zero40 zero40 rfl rfl HX3.out.2.1 rfl rfl zero40_one) ?_))
  try simp only [Exit.inBlock, Exit.then]
  refine bodyPost_ret (results_40_tmp (p := 4) (q := 5) rfl _ _ (w.heap.size + 1) zero40 (.int .i64 x) rfl rfl (setRow_heap _ _ _ _ _ _ HX3.out.2.1) rfl) rfl ⟨⟨.slice none 0 0, by rw [HE.out]; rfl, by rw [HE.out]; exact tab_nil⟩, below_setRow (HB0.out.trans (HB3.out.mono HB0.out.size)) (Nat.le_succ _) _⟩
set_option maxRecDepth 100000 in
set_option maxHeartbeats 4000000 in
theorem present24_hold (w : World) (vr vt : Value) (g : Nat) (rels : List W) (t : Tb) (hR : Tab w vr rels) (ht : Tab w vt t) (he : presE g rels = 0) (hg : TGood g t) (hstd : std t 0 = some t) (hh : holdsB rels [] t = false) : Calls Try.prog 32 #[.agg #[.int .i64 (g : Int), vr], vt] w (PresentPost g rels t w) := by
  obtain ⟨Ar, cr, rfl⟩ := Tab.form hR
  obtain ⟨At, ct, rfl⟩ := Tab.form ht
  have H78 : Hid (∀ W, Tab W (.slice Ar rels.length cr) rels → Calls Try.prog 102 #[.agg #[.int .i64 (g : Int), .slice Ar rels.length cr]] W fun e w' => (∃ y, e = .returned (.tuple #[.int .i64 (presE (g : Int) rels), .int .i64 y])) ∧ Below W.heap.size W w') := Lib.hid fun W h => pcheck78_any W _ _ rels h
  have H68 : Hid (∀ W, Tab W (.slice At t.length ct) t → Calls Try.prog 92 #[.int .i64 (g : Int), .slice At t.length ct] W fun e w' => (∃ vr bm vl, e = .returned (.tuple #[.agg #[.slice At t.length ct, vr, .map (some bm), vl], .int .i64 0]) ∧ SysAt w' (.slice At t.length ct) vr bm vl t (reps t) (pairs t (reps t) g)) ∧ Below W.heap.size W w') := Lib.hid fun W h => of68_good W _ g t h hg hstd
  have hre : repsE g t = (reps t, 0) := by unfold repsE; rw [check_of_good hg, if_neg (by simp), if_pos hstd]
  have H35 : Hid (∀ W, Tab W (.slice Ar rels.length cr) rels → Tab W (.slice At t.length ct) t → Calls Try.prog 43 #[.agg #[.int .i64 (g : Int), .slice Ar rels.length cr], .slice none 0 0, .slice At t.length ct] W fun e w' => e = .returned (.tuple #[.bool (holdsB rels [] t), .int .i64 0]) ∧ Below W.heap.size W w') := Lib.hid fun W h h2 => (holds35_any W _ _ _ g rels [] t h tab_nil h2).mono fun e w' ⟨a, b⟩ => by
    rw [holdsE_good he (by rw [check_of_good hg])] at a
    exact ⟨a, b⟩
  rw [he] at H78
  have HE : Hid (presentE g rels t = ((0, []), 13)) := Lib.hid (by unfold presentE; rw [if_neg (by rw [he]; simp), hre, if_neg (by simp), if_pos hh])
  rw [hh] at H35
  clear he hh hg hstd hre
  have HPB : Hid (∀ w0 : World, w0 = (w.alloc (.cells #[.int .i64 (g : Int), .slice Ar rels.length cr] 40)).alloc (.cells zero40 40) → Below w.heap.size w w0 ∧ w0.heap.size = w.heap.size + 2 ∧ w0.heap[w.heap.size]? = some (.cells #[.int .i64 (g : Int), .slice Ar rels.length cr] 40 (0, 0)) ∧ w0.heap[w.heap.size + 1]? = some (.cells zero40 40 (0, 0))) := Lib.hid fun w0 h => by
    subst h
    refine ⟨((Below.refl _ _).alloc (Nat.le_refl _) _).alloc (by simp) _, by simp, ?_, ?_⟩
    · exact (Below.heap_alloc (w.alloc _) _ w.heap.size (by simp)).trans (heap_alloc_new w _)
    · have := heap_alloc_new (w.alloc (.cells #[.int .i64 (g : Int), .slice Ar rels.length cr] 40)) (.cells zero40 40); rwa [World.size_alloc] at this
  have HRR := Lib.hid hR
  have HTT := Lib.hid ht
  clear hR ht
  go_enter Try.func32, Try.ntmps32
  go_wp2_with ((with_reducible refine wpList_sel 4 ?_); refine wpList_val rfl (r_alloc40 rfl) ?_)
  generalize hw0 : (w.alloc (.cells #[.int .i64 (g : Int), .slice Ar rels.length cr] 40)).alloc (.cells zero40 40) = w0 at *
  obtain ⟨hb0, hsz, hbp, hbr⟩ := HPB.out w0 rfl
  have HB0 := Lib.hid hb0
  have HSZ := Lib.hid hsz
  have HBP := Lib.hid hbp
  have HBX : Hid (∀ W, Below w0.heap.size w0 W → (W.cell? ⟨w.heap.size, 0, none⟩ = some (.int .i64 (g : Int)) ∧ W.cell? ⟨w.heap.size, 1, none⟩ = some (.slice Ar rels.length cr)) ∧ W.heap[w.heap.size]? = some (.cells #[.int .i64 (g : Int), .slice Ar rels.length cr] 40 (0, 0)) ∧ W.heap[w.heap.size + 1]? = some (.cells zero40 40 (0, 0)) ∧ w.heap.size + 1 < W.heap.size) := Lib.hid fun W h => by
    have h1 := (h.block _ (Array.getElem?_eq_some_iff.1 hbp).1).trans hbp
    have h2 := (h.block _ (Array.getElem?_eq_some_iff.1 hbr).1).trans hbr
    exact ⟨cell_of2 h1, h1, h2, (Array.getElem?_eq_some_iff.1 h2).1⟩
  clear hw0 hb0 hsz hbp hbr HPB
  go_wp2_with (first
    | ((with_reducible refine wpList_sel 19 ?_); refine wpList_val rfl (r_loadAt 40 (.tmp 2) _ _ rfl rfl (load40 HBP.out)) ?_)
    | (go_at_call 102; (with_reducible refine (H78.out w0 (kept_tab.below HRR.out HB0.out)).mono ?_); rintro e w1 ⟨⟨y, rfl⟩, hb⟩
       have HB1 := Lib.hid hb
       obtain ⟨⟨p1, q1⟩, x1⟩ := HBX.out _ hb
       have HX1 := Lib.hid x1
       clear hb x1)
    | (go_at_call 92; (with_reducible refine (H68.out _ (kept_tab.below HTT.out (HB0.out.trans (HB1.out.mono HB0.out.size)))).mono ?_); rintro e w2 ⟨⟨vr, bm, vl, rfl, hS⟩, hb⟩
       obtain ⟨Aq, cq, rfl⟩ := Tab.form hS.reps
       obtain ⟨base, hl⟩ := hS.list
       obtain ⟨Al, cl, rfl⟩ := OwnP.form hl
       have HN2 := Lib.hid (heap_alloc_new w2 (.cells zero95 102))
       have HB2 := Lib.hid (HB1.out.trans (hb.mono HB1.out.size))
       have HS := Lib.hid hS
       have HNS := Lib.hid (setRow_heap (w2.alloc (.cells zero95 102)) w2.heap.size zero95 #[.slice At t.length ct, .slice Aq (reps t).length cq, .map (some bm), .slice Al (pairs t (reps t) g).length cl] 102 (0, 0) HN2.out)
       have HB3 := Lib.hid (HB2.out.trans ((below_boxed (Below.refl w2.heap.size w2) (.cells zero95 102) #[.slice At t.length ct, .slice Aq (reps t).length cq, .map (some bm), .slice Al (pairs t (reps t) g).length cl]).mono HB2.out.size))
       have HX3 := Lib.hid (HBX.out _ HB3.out).2
       clear hb hS hl p1 q1)
    | ((with_reducible refine wpList_sel 8 ?_); refine wpList_val rfl (r_alloc95 rfl) ?_; refine wpList_skip rfl (r_store95 (.tmp 8) (.tmp 32) rfl w2.heap.size zero95 #[.slice At t.length ct, .slice Aq (reps t).length cq, .map (some bm), .slice Al (pairs t (reps t) g).length cl] rfl rfl HN2.out rfl rfl (one95 _ _ _ _ _ _ _ _ _ _)) ?_)
    | ((with_reducible refine wpList_sel 39 ?_); refine wpList_val rfl (r_loadAt 40 (.tmp 2) _ _ rfl rfl (load40 HX3.out.1)) ?_)
    | (go_at_call 43; (with_reducible refine (H35.out _ (kept_tab.below HRR.out (HB0.out.trans (HB3.out.mono HB0.out.size))) (kept_tab.below HTT.out (HB0.out.trans (HB3.out.mono HB0.out.size)))).mono ?_); rintro e w4 ⟨rfl, hb⟩
       have HB4 := Lib.hid (HB3.out.trans (hb.mono HB3.out.size))
       have HX4 := Lib.hid (HBX.out _ HB4.out).2
       have HBS : Hid (w4.heap[w2.heap.size]? = some (.cells #[.slice At t.length ct, .slice Aq (reps t).length cq, .map (some bm), .slice Al (pairs t (reps t) g).length cl] 102 (0, 0))) := Lib.hid ((hb.block _ (Array.getElem?_eq_some_iff.1 HNS.out).1).trans HNS.out)
       have HS4 := Lib.hid ((HS.out.below (below_boxed (Below.refl w2.heap.size w2) (.cells zero95 102) #[.slice At t.length ct, .slice Aq (reps t).length cq, .map (some bm), .slice Al (pairs t (reps t) g).length cl])).below hb)
       have hx4 := (box_cells HBS.out).2.2.2
       clear hb)
    | ((with_reducible refine wpList_sel 46 ?_); refine wpList_val rfl (r_build40 rfl) ?_; refine wpList_skip rfl (r_store40 (.tmp 4) (.tmp 46) rfl (w.heap.size + 1) zero40 zero40 rfl rfl HX4.out.2.1 rfl rfl zero40_one) ?_))
  try simp only [Exit.inBlock, Exit.then]
  refine bodyPost_ret (results_40_tmp (p := 4) (q := 5) rfl _ _ (w.heap.size + 1) zero40 (.int .i64 13) rfl rfl (setRow_heap _ _ _ _ _ _ HX4.out.2.1) rfl) rfl ⟨⟨.slice none 0 0, by rw [HE.out]; rfl, by rw [HE.out]; exact tab_nil⟩, below_setRow (HB0.out.trans (HB4.out.mono HB0.out.size)) (Nat.le_succ _) _⟩
set_option maxRecDepth 100000 in
set_option maxHeartbeats 4000000 in
theorem present24_over (w : World) (vr vt : Value) (g : Nat) (rels : List W) (t : Tb) (hR : Tab w vr rels) (ht : Tab w vt t) (he : presE g rels = 0) (hg : TGood g t) (hstd : std t 0 = some t) (hh : holdsB rels [] t = true) (hm : 16 < (pairs t (reps t) g).length) : Calls Try.prog 32 #[.agg #[.int .i64 (g : Int), vr], vt] w (PresentPost g rels t w) := by
  obtain ⟨Ar, cr, rfl⟩ := Tab.form hR
  obtain ⟨At, ct, rfl⟩ := Tab.form ht
  have H78 : Hid (∀ W, Tab W (.slice Ar rels.length cr) rels → Calls Try.prog 102 #[.agg #[.int .i64 (g : Int), .slice Ar rels.length cr]] W fun e w' => (∃ y, e = .returned (.tuple #[.int .i64 (presE (g : Int) rels), .int .i64 y])) ∧ Below W.heap.size W w') := Lib.hid fun W h => pcheck78_any W _ _ rels h
  have H68 : Hid (∀ W, Tab W (.slice At t.length ct) t → Calls Try.prog 92 #[.int .i64 (g : Int), .slice At t.length ct] W fun e w' => (∃ vr bm vl, e = .returned (.tuple #[.agg #[.slice At t.length ct, vr, .map (some bm), vl], .int .i64 0]) ∧ SysAt w' (.slice At t.length ct) vr bm vl t (reps t) (pairs t (reps t) g)) ∧ Below W.heap.size W w') := Lib.hid fun W h => of68_good W _ g t h hg hstd
  have hre : repsE g t = (reps t, 0) := by unfold repsE; rw [check_of_good hg, if_neg (by simp), if_pos hstd]
  have H35 : Hid (∀ W, Tab W (.slice Ar rels.length cr) rels → Tab W (.slice At t.length ct) t → Calls Try.prog 43 #[.agg #[.int .i64 (g : Int), .slice Ar rels.length cr], .slice none 0 0, .slice At t.length ct] W fun e w' => e = .returned (.tuple #[.bool (holdsB rels [] t), .int .i64 0]) ∧ Below W.heap.size W w') := Lib.hid fun W h h2 => (holds35_any W _ _ _ g rels [] t h tab_nil h2).mono fun e w' ⟨a, b⟩ => by
    rw [holdsE_good he (by rw [check_of_good hg])] at a
    exact ⟨a, b⟩
  rw [he] at H78
  have HE : Hid (presentE g rels t = ((0, []), 5)) := Lib.hid (by unfold presentE; rw [if_neg (by rw [he]; simp), hre, if_neg (by simp), if_neg (by rw [hh]; simp), if_pos (by simpa using hm)])
  have hmI : (16 : Int) < ((pairs t (reps t) g).length : Int) := by omega
  rw [hh] at H35
  clear he hh hg hstd hre hm
  have HPB : Hid (∀ w0 : World, w0 = (w.alloc (.cells #[.int .i64 (g : Int), .slice Ar rels.length cr] 40)).alloc (.cells zero40 40) → Below w.heap.size w w0 ∧ w0.heap.size = w.heap.size + 2 ∧ w0.heap[w.heap.size]? = some (.cells #[.int .i64 (g : Int), .slice Ar rels.length cr] 40 (0, 0)) ∧ w0.heap[w.heap.size + 1]? = some (.cells zero40 40 (0, 0))) := Lib.hid fun w0 h => by
    subst h
    refine ⟨((Below.refl _ _).alloc (Nat.le_refl _) _).alloc (by simp) _, by simp, ?_, ?_⟩
    · exact (Below.heap_alloc (w.alloc _) _ w.heap.size (by simp)).trans (heap_alloc_new w _)
    · have := heap_alloc_new (w.alloc (.cells #[.int .i64 (g : Int), .slice Ar rels.length cr] 40)) (.cells zero40 40); rwa [World.size_alloc] at this
  have HRR := Lib.hid hR
  have HTT := Lib.hid ht
  clear hR ht
  go_enter Try.func32, Try.ntmps32
  go_wp2_with ((with_reducible refine wpList_sel 4 ?_); refine wpList_val rfl (r_alloc40 rfl) ?_)
  generalize hw0 : (w.alloc (.cells #[.int .i64 (g : Int), .slice Ar rels.length cr] 40)).alloc (.cells zero40 40) = w0 at *
  obtain ⟨hb0, hsz, hbp, hbr⟩ := HPB.out w0 rfl
  have HB0 := Lib.hid hb0
  have HSZ := Lib.hid hsz
  have HBP := Lib.hid hbp
  have HBX : Hid (∀ W, Below w0.heap.size w0 W → (W.cell? ⟨w.heap.size, 0, none⟩ = some (.int .i64 (g : Int)) ∧ W.cell? ⟨w.heap.size, 1, none⟩ = some (.slice Ar rels.length cr)) ∧ W.heap[w.heap.size]? = some (.cells #[.int .i64 (g : Int), .slice Ar rels.length cr] 40 (0, 0)) ∧ W.heap[w.heap.size + 1]? = some (.cells zero40 40 (0, 0)) ∧ w.heap.size + 1 < W.heap.size) := Lib.hid fun W h => by
    have h1 := (h.block _ (Array.getElem?_eq_some_iff.1 hbp).1).trans hbp
    have h2 := (h.block _ (Array.getElem?_eq_some_iff.1 hbr).1).trans hbr
    exact ⟨cell_of2 h1, h1, h2, (Array.getElem?_eq_some_iff.1 h2).1⟩
  clear hw0 hb0 hsz hbp hbr HPB
  go_wp2_with (first
    | ((with_reducible refine wpList_sel 19 ?_); refine wpList_val rfl (r_loadAt 40 (.tmp 2) _ _ rfl rfl (load40 HBP.out)) ?_)
    | (go_at_call 102; (with_reducible refine (H78.out w0 (kept_tab.below HRR.out HB0.out)).mono ?_); rintro e w1 ⟨⟨y, rfl⟩, hb⟩
       have HB1 := Lib.hid hb
       obtain ⟨⟨p1, q1⟩, x1⟩ := HBX.out _ hb
       have HX1 := Lib.hid x1
       clear hb x1)
    | (go_at_call 92; (with_reducible refine (H68.out _ (kept_tab.below HTT.out (HB0.out.trans (HB1.out.mono HB0.out.size)))).mono ?_); rintro e w2 ⟨⟨vr, bm, vl, rfl, hS⟩, hb⟩
       obtain ⟨Aq, cq, rfl⟩ := Tab.form hS.reps
       obtain ⟨base, hl⟩ := hS.list
       obtain ⟨Al, cl, rfl⟩ := OwnP.form hl
       have HN2 := Lib.hid (heap_alloc_new w2 (.cells zero95 102))
       have HB2 := Lib.hid (HB1.out.trans (hb.mono HB1.out.size))
       have HS := Lib.hid hS
       have HNS := Lib.hid (setRow_heap (w2.alloc (.cells zero95 102)) w2.heap.size zero95 #[.slice At t.length ct, .slice Aq (reps t).length cq, .map (some bm), .slice Al (pairs t (reps t) g).length cl] 102 (0, 0) HN2.out)
       have HB3 := Lib.hid (HB2.out.trans ((below_boxed (Below.refl w2.heap.size w2) (.cells zero95 102) #[.slice At t.length ct, .slice Aq (reps t).length cq, .map (some bm), .slice Al (pairs t (reps t) g).length cl]).mono HB2.out.size))
       have HX3 := Lib.hid (HBX.out _ HB3.out).2
       clear hb hS hl p1 q1)
    | ((with_reducible refine wpList_sel 8 ?_); refine wpList_val rfl (r_alloc95 rfl) ?_; refine wpList_skip rfl (r_store95 (.tmp 8) (.tmp 32) rfl w2.heap.size zero95 #[.slice At t.length ct, .slice Aq (reps t).length cq, .map (some bm), .slice Al (pairs t (reps t) g).length cl] rfl rfl HN2.out rfl rfl (one95 _ _ _ _ _ _ _ _ _ _)) ?_)
    | ((with_reducible refine wpList_sel 39 ?_); refine wpList_val rfl (r_loadAt 40 (.tmp 2) _ _ rfl rfl (load40 HX3.out.1)) ?_)
    | (go_at_call 43; (with_reducible refine (H35.out _ (kept_tab.below HRR.out (HB0.out.trans (HB3.out.mono HB0.out.size))) (kept_tab.below HTT.out (HB0.out.trans (HB3.out.mono HB0.out.size)))).mono ?_); rintro e w4 ⟨rfl, hb⟩
       have HB4 := Lib.hid (HB3.out.trans (hb.mono HB3.out.size))
       have HX4 := Lib.hid (HBX.out _ HB4.out).2
       have HBS : Hid (w4.heap[w2.heap.size]? = some (.cells #[.slice At t.length ct, .slice Aq (reps t).length cq, .map (some bm), .slice Al (pairs t (reps t) g).length cl] 102 (0, 0))) := Lib.hid ((hb.block _ (Array.getElem?_eq_some_iff.1 HNS.out).1).trans HNS.out)
       have HS4 := Lib.hid ((HS.out.below (below_boxed (Below.refl w2.heap.size w2) (.cells zero95 102) #[.slice At t.length ct, .slice Aq (reps t).length cq, .map (some bm), .slice Al (pairs t (reps t) g).length cl])).below hb)
       have hx4 := (box_cells HBS.out).2.2.2
       clear hb)
    | ((with_reducible refine wpList_sel 52 ?_); refine wpList_val rfl (r_build40 rfl) ?_; refine wpList_skip rfl (r_store40 (.tmp 4) (.tmp 52) rfl (w.heap.size + 1) zero40 zero40 rfl rfl HX4.out.2.1 rfl rfl zero40_one) ?_))
  try simp only [Exit.inBlock, Exit.then]
  refine bodyPost_ret (results_40_tmp (p := 4) (q := 5) rfl _ _ (w.heap.size + 1) zero40 (.int .i64 5) rfl rfl (setRow_heap _ _ _ _ _ _ HX4.out.2.1) rfl) rfl ⟨⟨.slice none 0 0, by rw [HE.out]; rfl, by rw [HE.out]; exact tab_nil⟩, below_setRow (HB0.out.trans (HB4.out.mono HB0.out.size)) (Nat.le_succ _) _⟩
set_option maxRecDepth 100000 in
set_option maxHeartbeats 4000000 in
theorem present24_good (w : World) (vr vt : Value) (g : Nat) (rels : List W) (t : Tb) (hR : Tab w vr rels) (ht : Tab w vt t) (he : presE g rels = 0) (hg : TGood g t) (hstd : std t 0 = some t) (hh : holdsB rels [] t = true) (hm : ¬ 16 < (pairs t (reps t) g).length) : Calls Try.prog 32 #[.agg #[.int .i64 (g : Int), vr], vt] w (PresentPost g rels t w) := by
  obtain ⟨Ar, cr, rfl⟩ := Tab.form hR
  obtain ⟨At, ct, rfl⟩ := Tab.form ht
  have H78 : Hid (∀ W, Tab W (.slice Ar rels.length cr) rels → Calls Try.prog 102 #[.agg #[.int .i64 (g : Int), .slice Ar rels.length cr]] W fun e w' => (∃ y, e = .returned (.tuple #[.int .i64 (presE (g : Int) rels), .int .i64 y])) ∧ Below W.heap.size W w') := Lib.hid fun W h => pcheck78_any W _ _ rels h
  have H68 : Hid (∀ W, Tab W (.slice At t.length ct) t → Calls Try.prog 92 #[.int .i64 (g : Int), .slice At t.length ct] W fun e w' => (∃ vr bm vl, e = .returned (.tuple #[.agg #[.slice At t.length ct, vr, .map (some bm), vl], .int .i64 0]) ∧ SysAt w' (.slice At t.length ct) vr bm vl t (reps t) (pairs t (reps t) g)) ∧ Below W.heap.size W w') := Lib.hid fun W h => of68_good W _ g t h hg hstd
  have hre : repsE g t = (reps t, 0) := by unfold repsE; rw [check_of_good hg, if_neg (by simp), if_pos hstd]
  have H35 : Hid (∀ W, Tab W (.slice Ar rels.length cr) rels → Tab W (.slice At t.length ct) t → Calls Try.prog 43 #[.agg #[.int .i64 (g : Int), .slice Ar rels.length cr], .slice none 0 0, .slice At t.length ct] W fun e w' => e = .returned (.tuple #[.bool (holdsB rels [] t), .int .i64 0]) ∧ Below W.heap.size W w') := Lib.hid fun W h h2 => (holds35_any W _ _ _ g rels [] t h tab_nil h2).mono fun e w' ⟨a, b⟩ => by
    rw [holdsE_good he (by rw [check_of_good hg])] at a
    exact ⟨a, b⟩
  rw [he] at H78
  have HE1 : Hid (tooLong (relTo t (reps t) g rels t.length) = true → presentE g rels t = ((0, []), 4)) := Lib.hid fun h => by unfold presentE; rw [if_neg (by rw [he]; simp), hre, if_neg (by simp), if_neg (by rw [hh]; simp), if_neg (by simpa using hm), if_pos (by simpa using h)]
  have HE2 : Hid (tooLong (relTo t (reps t) g rels t.length) = false → presentE g rels t = ((((pairs t (reps t) g).length : Int), relTo t (reps t) g rels t.length), 0)) := Lib.hid fun h => by unfold presentE; rw [if_neg (by rw [he]; simp), hre, if_neg (by simp), if_neg (by rw [hh]; simp), if_neg (by simpa using hm), if_neg (by simp [h])]; rfl
  have hmI : ¬ (16 : Int) < ((pairs t (reps t) g).length : Int) := by omega
  have HRL : Hid (∀ j, j < rels.length → LetsOk g (rels.getD j []) ∧ (rels.getD j []).length ≤ 4000) := Lib.hid fun j hj => by
    obtain ⟨gn, e, -, -, -, h⟩ := presE_good he
    obtain rfl : g = gn := by omega
    exact h j hj
  have HRC := Lib.hid hR.cells
  have hrl1 : (rels.length : Int) ≤ 100 := by obtain ⟨gn, e, -, -, h, -⟩ := presE_good he; omega
  have htl1 := hg.n2
  have hrl0 : (0 : Int) ≤ (rels.length : Int) := Int.natCast_nonneg _
  have htl0 : (0 : Int) ≤ (t.length : Int) := Int.natCast_nonneg _
  have HG := Lib.hid hg
  have HSTD := Lib.hid (std_iff hstd)
  rw [hh] at H35
  clear he hh hg hstd hre hm
  have HPB : Hid (∀ w0 : World, w0 = (w.alloc (.cells #[.int .i64 (g : Int), .slice Ar rels.length cr] 40)).alloc (.cells zero40 40) → Below w.heap.size w w0 ∧ w0.heap.size = w.heap.size + 2 ∧ w0.heap[w.heap.size]? = some (.cells #[.int .i64 (g : Int), .slice Ar rels.length cr] 40 (0, 0)) ∧ w0.heap[w.heap.size + 1]? = some (.cells zero40 40 (0, 0))) := Lib.hid fun w0 h => by
    subst h
    refine ⟨((Below.refl _ _).alloc (Nat.le_refl _) _).alloc (by simp) _, by simp, ?_, ?_⟩
    · exact (Below.heap_alloc (w.alloc _) _ w.heap.size (by simp)).trans (heap_alloc_new w _)
    · have := heap_alloc_new (w.alloc (.cells #[.int .i64 (g : Int), .slice Ar rels.length cr] 40)) (.cells zero40 40); rwa [World.size_alloc] at this
  have HRR := Lib.hid hR
  have HTT := Lib.hid ht
  clear hR ht
  go_enter Try.func32, Try.ntmps32
  go_wp2_with ((with_reducible refine wpList_sel 4 ?_); refine wpList_val rfl (r_alloc40 rfl) ?_)
  generalize hw0 : (w.alloc (.cells #[.int .i64 (g : Int), .slice Ar rels.length cr] 40)).alloc (.cells zero40 40) = w0 at *
  obtain ⟨hb0, hsz, hbp, hbr⟩ := HPB.out w0 rfl
  have HB0 := Lib.hid hb0
  have HSZ := Lib.hid hsz
  have HBP := Lib.hid hbp
  have HBX : Hid (∀ W, Below w0.heap.size w0 W → (W.cell? ⟨w.heap.size, 0, none⟩ = some (.int .i64 (g : Int)) ∧ W.cell? ⟨w.heap.size, 1, none⟩ = some (.slice Ar rels.length cr)) ∧ W.heap[w.heap.size]? = some (.cells #[.int .i64 (g : Int), .slice Ar rels.length cr] 40 (0, 0)) ∧ W.heap[w.heap.size + 1]? = some (.cells zero40 40 (0, 0)) ∧ w.heap.size + 1 < W.heap.size) := Lib.hid fun W h => by
    have h1 := (h.block _ (Array.getElem?_eq_some_iff.1 hbp).1).trans hbp
    have h2 := (h.block _ (Array.getElem?_eq_some_iff.1 hbr).1).trans hbr
    exact ⟨cell_of2 h1, h1, h2, (Array.getElem?_eq_some_iff.1 h2).1⟩
  clear hw0 hb0 hsz hbp hbr HPB
  go_wp2_with (first
    | ((with_reducible refine wpList_sel 19 ?_); refine wpList_val rfl (r_loadAt 40 (.tmp 2) _ _ rfl rfl (load40 HBP.out)) ?_)
    | (go_at_call 102; (with_reducible refine (H78.out w0 (kept_tab.below HRR.out HB0.out)).mono ?_); rintro e w1 ⟨⟨y, rfl⟩, hb⟩
       have HB1 := Lib.hid hb
       obtain ⟨⟨p1, q1⟩, x1⟩ := HBX.out _ hb
       have HX1 := Lib.hid x1
       clear hb x1)
    | (go_at_call 92; (with_reducible refine (H68.out _ (kept_tab.below HTT.out (HB0.out.trans (HB1.out.mono HB0.out.size)))).mono ?_); rintro e w2 ⟨⟨vr, bm, vl, rfl, hS⟩, hb⟩
       obtain ⟨Aq, cq, rfl⟩ := Tab.form hS.reps
       obtain ⟨base, hl⟩ := hS.list
       obtain ⟨Al, cl, rfl⟩ := OwnP.form hl
       have HN2 := Lib.hid (heap_alloc_new w2 (.cells zero95 102))
       have HB2 := Lib.hid (HB1.out.trans (hb.mono HB1.out.size))
       have HS := Lib.hid hS
       have HNS := Lib.hid (setRow_heap (w2.alloc (.cells zero95 102)) w2.heap.size zero95 #[.slice At t.length ct, .slice Aq (reps t).length cq, .map (some bm), .slice Al (pairs t (reps t) g).length cl] 102 (0, 0) HN2.out)
       have HB3 := Lib.hid (HB2.out.trans ((below_boxed (Below.refl w2.heap.size w2) (.cells zero95 102) #[.slice At t.length ct, .slice Aq (reps t).length cq, .map (some bm), .slice Al (pairs t (reps t) g).length cl]).mono HB2.out.size))
       have HX3 := Lib.hid (HBX.out _ HB3.out).2
       clear hb hS hl p1 q1)
    | ((with_reducible refine wpList_sel 8 ?_); refine wpList_val rfl (r_alloc95 rfl) ?_; refine wpList_skip rfl (r_store95 (.tmp 8) (.tmp 32) rfl w2.heap.size zero95 #[.slice At t.length ct, .slice Aq (reps t).length cq, .map (some bm), .slice Al (pairs t (reps t) g).length cl] rfl rfl HN2.out rfl rfl (one95 _ _ _ _ _ _ _ _ _ _)) ?_)
    | ((with_reducible refine wpList_sel 39 ?_); refine wpList_val rfl (r_loadAt 40 (.tmp 2) _ _ rfl rfl (load40 HX3.out.1)) ?_)
    | (go_at_call 43; (with_reducible refine (H35.out _ (kept_tab.below HRR.out (HB0.out.trans (HB3.out.mono HB0.out.size))) (kept_tab.below HTT.out (HB0.out.trans (HB3.out.mono HB0.out.size)))).mono ?_); rintro e w4 ⟨rfl, hb⟩
       have HB4 := Lib.hid (HB3.out.trans (hb.mono HB3.out.size))
       have HX4 := Lib.hid (HBX.out _ HB4.out).2
       have HBS : Hid (w4.heap[w2.heap.size]? = some (.cells #[.slice At t.length ct, .slice Aq (reps t).length cq, .map (some bm), .slice Al (pairs t (reps t) g).length cl] 102 (0, 0))) := Lib.hid ((hb.block _ (Array.getElem?_eq_some_iff.1 HNS.out).1).trans HNS.out)
       have HS4 := Lib.hid ((HS.out.below (below_boxed (Below.refl w2.heap.size w2) (.cells zero95 102) #[.slice At t.length ct, .slice Aq (reps t).length cq, .map (some bm), .slice Al (pairs t (reps t) g).length cl])).below hb)
       have hx4 := (box_cells HBS.out).2.2.2
       clear hb)
    | ((with_reducible refine wpList_sel 57 ?_); refine wpList_val rfl (r_build40m (.tmp 56) _ rfl rfl) ?_; refine wpList_val rfl (r_alloc40 rfl) ?_; refine wpList_skip rfl (r_store40 (.tmp 12) (.tmp 57) rfl w4.heap.size zero40 #[.int .i64 ((pairs t (reps t) g).length : Int), .slice none 0 0] rfl rfl (heap_alloc_new w4 _) rfl rfl (one40 _ _ _ _)) ?_))
  have HP0 := Lib.hid (PrSt.first w4 ((pairs t (reps t) g).length : Int))
  have HW4 := Lib.hid (HB0.out.trans (HB4.out.mono HB0.out.size))
  have HLT4 := Lib.hid HX4.out.2.2
  have HTB4 := Lib.hid (kept_tab.below HRR.out HW4.out)
  generalize hm : ((pairs t (reps t) g).length : Int) = m at *
  generalize hwz : (w4.alloc (.cells zero40 40)).setRow w4.heap.size #[.int .i64 m, .slice none 0 0] = wz at *
  clear hwz hx4 HNS HN2 HS HB1 HB2 HB3 HX1 HX3 HTT
  go_loopw [13, 60] (fun l i wr => ∃ r : Nat, i = .int .i64 r ∧ r ≤ t.length ∧ ∃ s : Nat, l = .int .i64 (4000 - (s : Int)) ∧ s ≤ 4000 ∧ Hid (s = lens (relTo t (reps t) g rels r) ∧ (relTo t (reps t) g rels r).length ≤ 100) ∧ Hid (∃ F A c, PrSt F w4 m wr A c (relTo t (reps t) g rels r))) (fun _ i _ => t.length - (intOf i).toNat)
  case atStart => exact ⟨0, rfl, by omega, 0, rfl, by omega, Lib.hid ⟨rfl, by simp [relTo]⟩, Lib.hid ⟨_, _, _, HP0.out⟩⟩
  case round =>
    clear HP0
    obtain ⟨r, rfl, hr, s, rfl, hs, HK, HST⟩ := hrel
    have hr0 : (0 : Int) ≤ (r : Int) := Int.natCast_nonneg _
    have hs0 : (0 : Int) ≤ (s : Int) := Int.natCast_nonneg _
    have hbz : Below w4.heap.size w4 wr := by obtain ⟨F, A, c, h⟩ := HST.out; exact h.out.below
    obtain ⟨⟨p5, q5⟩, x5⟩ := HBX.out wr (HB4.out.trans (hbz.mono HB4.out.size))
    have HX5 := Lib.hid x5
    clear hbz x5
    by_cases hrl : r < t.length
    · have hrl' : (r : Int) < (t.length : Int) := by omega
      have HA0 := Lib.hid (relAt_zero t (reps t) g rels r)
      have HA1 := Lib.hid (relTo_succ t (reps t) g rels r)
      rename World => w6
      go_wp2_with fail
      go_loopw [13, 66] (fun l i wr => ∃ k : Nat, i = .int .i64 k ∧ k ≤ rels.length ∧ ∃ s : Nat, l = .int .i64 (4000 - (s : Int)) ∧ s ≤ 4000 ∧ Hid (s = lens (relAt t (reps t) g rels r k) ∧ (relAt t (reps t) g rels r k).length ≤ 100) ∧ Hid (∃ F A c, PrSt F w4 m wr A c (relAt t (reps t) g rels r k))) (fun _ i _ => rels.length - (intOf i).toNat)
      case atStart => exact ⟨0, rfl, by omega, s, rfl, hs, by rw [HA0.out]; exact HK, by rw [HA0.out]; exact HST⟩
      case round =>
        clear HK HST hs hs0 p5 q5 HX5
        obtain ⟨k, rfl, hk, s, rfl, hs, HK, HST⟩ := hrel
        have hk0 : (0 : Int) ≤ (k : Int) := Int.natCast_nonneg _
        have hs0 : (0 : Int) ≤ (s : Int) := Int.natCast_nonneg _
        have hs1 : (s : Int) ≤ 4000 := by omega
        obtain ⟨F, A, c, hP⟩ := HST.out
        have hbz := hP.out.below
        obtain ⟨⟨p5, q5⟩, x5⟩ := HBX.out wr (HB4.out.trans (hbz.mono HB4.out.size))
        have HX5 := Lib.hid x5
        have HP := Lib.hid hP
        have HBZ := Lib.hid hbz
        clear HST hP x5 hbz
        by_cases hlt : k < rels.length
        · have hlt' : (k : Int) < (rels.length : Int) := by omega
          obtain ⟨b, o, rfl, hcc⟩ := HRC.out (by omega)
          obtain ⟨u, hu, hI⟩ := hcc k hlt
          have hu' := ((HW4.out.trans (HBZ.out.mono HW4.out.size)).cell (p := ⟨b, o + k, none⟩) (World.block_lt_of_cell? w _ hu)).trans hu
          have HI := Lib.hid (hI.below (HW4.out.trans (HBZ.out.mono HW4.out.size)))
          obtain ⟨Au, cu, rfl, -, -, -⟩ := hI.open_
          obtain ⟨hlets, hl4⟩ := HRL.out k hlt
          have HBS5 : Hid (wr.heap[w2.heap.size]? = some (.cells #[.slice At t.length ct, .slice Aq (reps t).length cq, .map (some bm), .slice Al (pairs t (reps t) g).length cl] 102 (0, 0))) := Lib.hid ((HBZ.out.block _ (Array.getElem?_eq_some_iff.1 HBS.out).1).trans HBS.out)
          have h76 := callsIn_wide.1 (rewrite76_in 0 wr (.slice At t.length ct) (.slice Aq (reps t).length cq) bm (.slice Al (pairs t (reps t) g).length cl) (.slice Au (rels.getD k []).length cu) g t (reps t) r (rels.getD k []) (HS4.out.below HBZ.out) HG.out HSTD.out hrl HI.out hlets (by omega))
          have HMS := Lib.hid (Mild.fits (rwW_mild HG.out HSTD.out (reps t) hlets hrl))
          have hxl : (rwW t (reps t) g r (rels.getD k [])).length ≤ 4000 := by
            have h1 := red_length (rwTo t (reps t) g (rels.getD k []) r (rels.getD k []).length).2
            have h2 := rwTo_len t (reps t) g (rels.getD k []) r (rels.getD k []).length
            unfold rwW
            omega
          have HSU := Lib.hid (relAt_succ t (reps t) g rels r k)
          have HPX : Hid (tooLong (relAt t (reps t) g rels r (k + 1)) = true → presentE g rels t = ((0, []), 4)) := Lib.hid fun h => HE1.out (tooLong_pre (relAt_pre t (reps t) g rels hrl (show k + 1 ≤ rels.length from hlt)) h)
          have H76 := Lib.hid h76
          clear hcc hu hI h76 hlets hl4
          unfold RwPost at H76
          generalize rwW t (reps t) g r (rels.getD k []) = x at *
          generalize hacc2 : relAt t (reps t) g rels r (k + 1) = acc2 at *
          have HACC2 := Lib.hid hacc2
          clear hacc2
          generalize relAt t (reps t) g rels r k = acc at *
          generalize rels.getD k [] = ws at *
          have hx0 : (0 : Int) ≤ (x.length : Int) := Int.natCast_nonneg _
          by_cases hx : x.length = 0
          · have hxn : x = [] := List.length_eq_zero_iff.1 hx
            subst hxn
            have HSU2 : Hid (acc2 = acc) := Lib.hid (by rw [HSU.out, if_neg (by simp)])
            clear hx hx0 hxl
            go_wp2_with (first
              | ((with_reducible refine wpList_sel 70 ?_); refine wpList_val rfl (r_load95 (.tmp 8) w2.heap.size _ _ _ _ rfl rfl HBS5.out) ?_)
              | (go_at_call 100; (with_reducible refine H76.out.mono ?_); rintro e w7 ⟨A7, c7, rfl, ho, hb⟩
                 have HP7 := Lib.hid (HP.out.below' hb)
                 clear ho hb))
            go_roundw
            case rel => exact ⟨k + 1, by go_num, by omega, s, rfl, hs, by rw [HACC2.out, HSU2.out]; exact HK, Lib.hid ⟨F, A, c, by rw [HACC2.out, HSU2.out]; exact HP7.out⟩⟩
            case measure => simp [intOf]; omega
          · have hx1 : (0 : Int) < (x.length : Int) := by omega
            have hx2 : ((x.length : Int) == 0) = false := by rw [beq_eq_false_iff_ne]; omega
            have hxl' : (x.length : Int) ≤ 4000 := by omega
            have HSU2 : Hid (acc2 = acc ++ [x]) := Lib.hid (by rw [HSU.out, if_pos (by omega)])
            have HLN : Hid (lens acc2 = s + x.length ∧ acc2.length = acc.length + 1) := Lib.hid (by rw [HSU2.out, lens_append, lens_one, ← HK.out.1]; simp)
            by_cases hov : 4000 < s + x.length
            · have hov' : (4000 : Int) - (s : Int) - (x.length : Int) < 0 := by omega
              have HE := Lib.hid (HPX.out (tooLong_true.2 (.inr (by rw [HLN.out.1]; exact hov))))
              clear hov hx
              go_wp2_with (first
                | ((with_reducible refine wpList_sel 70 ?_); refine wpList_val rfl (r_load95 (.tmp 8) w2.heap.size _ _ _ _ rfl rfl HBS5.out) ?_)
                | (go_at_call 100; (with_reducible refine H76.out.mono ?_); rintro e w7 ⟨A7, c7, rfl, ho, hb⟩
                   have HB7 := Lib.hid ((HB4.out.trans (HBZ.out.mono HB4.out.size)).trans (hb.mono (HB4.out.trans (HBZ.out.mono HB4.out.size)).size))
                   have HX7 := Lib.hid (HBX.out _ HB7.out).2
                   clear ho hb)
                | ((with_reducible refine wpList_sel 89 ?_); refine wpList_val rfl (r_build40 rfl) ?_; refine wpList_skip rfl (r_store40 (.tmp 4) (.tmp 89) rfl (w.heap.size + 1) zero40 zero40 rfl rfl HX7.out.2.1 rfl rfl zero40_one) ?_))
              try simp only [Exit.inBlock, Exit.then]
              refine bodyPost_ret (results_40_tmp (p := 4) (q := 5) rfl _ _ (w.heap.size + 1) zero40 (.int .i64 4) rfl rfl (setRow_heap _ _ _ _ _ _ HX7.out.2.1) rfl) rfl ⟨⟨.slice none 0 0, by rw [HE.out]; rfl, by rw [HE.out]; exact tab_nil⟩, below_setRow (HB0.out.trans (HB7.out.mono HB0.out.size)) (Nat.le_succ _) _⟩
            · have hov' : ¬ (4000 : Int) - (s : Int) - (x.length : Int) < 0 := by omega
              have hsx : s + x.length ≤ 4000 := by omega
              clear hov
              by_cases h100 : acc.length = 100
              · have HE := Lib.hid (HPX.out (tooLong_true.2 (.inl (by rw [HLN.out.2, h100]; omega))))
                have H100 := Lib.hid h100
                clear hx h100
                go_wp2_with (first
                  | ((with_reducible refine wpList_sel 70 ?_); refine wpList_val rfl (r_load95 (.tmp 8) w2.heap.size _ _ _ _ rfl rfl HBS5.out) ?_)
                  | (go_at_call 100; (with_reducible refine H76.out.mono ?_); rintro e w7 ⟨A7, c7, rfl, ho, hb⟩
                     have HB7 := Lib.hid ((HB4.out.trans (HBZ.out.mono HB4.out.size)).trans (hb.mono (HB4.out.trans (HBZ.out.mono HB4.out.size)).size))
                     have HX7 := Lib.hid (HBX.out _ HB7.out).2
                     have hp10 := (cell_of2 (HP.out.below' hb).box).2
                     rw [H100.out] at hp10
                     clear ho hb)
                  | ((with_reducible refine wpList_sel 89 ?_); refine wpList_val rfl (r_build40 rfl) ?_; refine wpList_skip rfl (r_store40 (.tmp 4) (.tmp 89) rfl (w.heap.size + 1) zero40 zero40 rfl rfl HX7.out.2.1 rfl rfl zero40_one) ?_))
                try simp only [Exit.inBlock, Exit.then]
                refine bodyPost_ret (results_40_tmp (p := 4) (q := 5) rfl _ _ (w.heap.size + 1) zero40 (.int .i64 4) rfl rfl (setRow_heap _ _ _ _ _ _ HX7.out.2.1) rfl) rfl ⟨⟨.slice none 0 0, by rw [HE.out]; rfl, by rw [HE.out]; exact tab_nil⟩, below_setRow (HB0.out.trans (HB7.out.mono HB0.out.size)) (Nat.le_succ _) _⟩
              · have h100' : ((acc.length : Int) == 100) = false := by rw [beq_eq_false_iff_ne]; omega
                have hal : acc.length ≤ 99 := by have := HK.out.2; omega
                have HAL := Lib.hid hal
                clear hx h100 hal
                generalize hal : acc.length = al at *
                have HALE := Lib.hid hal
                clear hal
                go_wp2_with (first
                  | ((with_reducible refine wpList_sel 70 ?_); refine wpList_val rfl (r_load95 (.tmp 8) w2.heap.size _ _ _ _ rfl rfl HBS5.out) ?_)
                  | (go_at_call 100; (with_reducible refine H76.out.mono ?_); rintro e w7 ⟨A7, c7, rfl, ho, hb⟩
                     have hp10 := (cell_of2 (HP.out.below' hb).box).2
                     rw [HALE.out] at hp10
                     obtain ⟨A8, c8, w8, hr8, ⟨hc8, hf8⟩, hP8⟩ := HP.out.push hb ho HMS.out (by have := HAL.out; rw [HALE.out]; omega)
                     rw [HALE.out] at hr8 hc8 hP8
                     rw [← HSU2.out] at hP8
                     have HR8 := Lib.hid hr8
                     have HP8 := Lib.hid hP8
                     clear ho hb hr8 hP8)
                  | ((with_reducible refine wpList_sel 94 ?_); refine wpList_val rfl (r_app (.tmp 91) (.tmp 93) 31 rfl rfl rfl HR8.out) ?_))
                go_roundw
                case rel => exact ⟨k + 1, by go_num, by omega, s + x.length, congrArg (Value.int .i64) (by omega), hsx, Lib.hid ⟨by rw [HACC2.out]; exact HLN.out.1.symm, by rw [HACC2.out, HLN.out.2]; have := HAL.out; have := HALE.out; omega⟩, Lib.hid ⟨_, _, _, by rw [HACC2.out]; exact HP8.out⟩⟩
                case measure => simp [intOf]; omega
        · obtain rfl : k = rels.length := by omega
          rename World => w9
          go_wp2_with fail
          go_roundw
          case rel => exact ⟨r + 1, by go_num, by omega, s, rfl, hs, by rw [HA1.out]; exact HK, Lib.hid ⟨F, A, c, by rw [HA1.out]; exact HP.out⟩⟩
          case measure => simp [intOf]; omega
    · obtain rfl : r = t.length := by omega
      rename World => w9
      obtain ⟨F, A, c, hP⟩ := HST.out
      have HE := Lib.hid (HE2.out (tooLong_false.2 ⟨HK.out.2, by rw [← HK.out.1]; exact hs⟩))
      have HP := Lib.hid hP
      have HTAB := Lib.hid hP.out.tabB
      have HBZ := Lib.hid hP.out.below
      clear HST hP
      generalize hac : relTo t (reps t) g rels t.length = acc at *
      have HAC := Lib.hid hac
      clear hac
      go_wp2_with ((with_reducible refine wpList_sel 98 ?_); refine wpList_val rfl (r_loadAt 40 (.tmp 12) _ _ rfl rfl (load40 HP.out.box)) ?_; refine wpList_skip rfl (r_store40 (.tmp 4) (.tmp 98) rfl (w.heap.size + 1) zero40 #[.int .i64 m, .slice A acc.length c] rfl rfl HX5.out.2.1 rfl rfl (one40 _ _ _ _)) ?_)
      try simp only [Exit.inBlock, Exit.then]
      refine bodyPost_ret (results_40_tmp (p := 4) (q := 5) rfl _ _ (w.heap.size + 1) #[.int .i64 m, .slice A acc.length c] (.int .i64 0) rfl rfl (setRow_heap _ _ _ _ _ _ HX5.out.2.1) rfl) rfl ⟨⟨.slice A acc.length c, by rw [HE.out], by rw [HE.out]; exact HTAB.out _ fun k h1 _ => setRow_other _ _ k _ (by have := HLT4.out; omega)⟩, below_setRow ((HW4.out).trans (HBZ.out.mono HW4.out.size)) (Nat.le_succ _) _⟩
theorem present24_any (w : World) (vr vt : Value) (g : Int) (rels : List W) (t : Tb) (hR : Tab w vr rels) (ht : Tab w vt t) : Calls Try.prog 32 #[.agg #[.int .i64 g, vr], vt] w (PresentPost g rels t w) := by
  by_cases he : presE g rels = 0
  · obtain ⟨gn, rfl, -, -, -, -⟩ := presE_good he
    by_cases hr : (repsE gn t).2 = 0
    · obtain ⟨gm, e, hg, hstd, -⟩ := repsE_good hr
      obtain rfl : gn = gm := by omega
      cases hh : holdsB rels [] t with
      | false => exact present24_hold w vr vt gn rels t hR ht he hg hstd hh
      | true =>
        by_cases hm : 16 < (pairs t (reps t) gn).length
        · exact present24_over w vr vt gn rels t hR ht he hg hstd hh hm
        · exact present24_good w vr vt gn rels t hR ht he hg hstd hh hm
    · exact present24_reps w vr vt gn rels t hR ht he hr
  · exact present24_pres w vr vt g rels t hR ht he
end Go.Proofs
namespace Go.Proofs
open Go.RowKit Go.Shelf Go.Proofs.Ct Go.Maps
/-- The frame but for the slots dm 0, .., dm (N-1). -/
structure SameM (a0 : Act) (dm : Nat → Nat) (N : Nat) (a : Act) : Prop where
  size : a.tmps.size = a0.tmps.size
  defers : a.defers = a0.defers
  out : ∀ t, (∀ i, i < N → dm i ≠ t) → a.tmps.getD t undef = a0.tmps.getD t undef
theorem SameM.refl (a0 : Act) (dm : Nat → Nat) (N : Nat) : SameM a0 dm N a0 := ⟨rfl, rfl, fun _ _ => rfl⟩
theorem SameM.put {a0 a : Act} {dm : Nat → Nat} {N i : Nat} (h : SameM a0 dm N a) (hi : i < N) (v : Value) : SameM a0 dm N (a.put (some (dm i)) v) :=
  ⟨by simpa [Act.put] using h.size, h.defers, fun t ht => by rw [← h.out t ht, put_getD_ne _ _ _ _ (ht i hi)]⟩
/-- Every edge leads back; each of the first N operations has a successor up to N. -/
structure Tailed1 (ops : Array Oper) (N : Nat) : Prop where
  size : ops.size = N + 1
  lex : ∀ (i : Nat) (o : Oper), ops[i]? = some o → ∀ e ∈ o.after.toList, e.on < i
  succ : ∀ i, i < N → ∃ (j : Nat) (o : Oper), i < j ∧ j ≤ N ∧ ops[j]? = some o ∧ ∃ e ∈ o.after.toList, e.on = i ∧ Region.binds .any e = true
section
variable {F : Fence} {n : Nat} {P : Program} {ops : Array Oper} {Q : Exit → Act → World → Prop}
theorem Tailed1.before {N : Nat} (ht : Tailed1 ops N) {listed : Array Bool} (hc : Closed ops listed) {o : Oper} (ho : ops[N]? = some o) (hp : ∀ e ∈ o.after.toList, Region.binds .any e = true → listed.getD e.on false = true) :
    ∀ k i, i < N → N - i ≤ k → listed.getD i false = true := by
  intro k
  induction k with
  | zero => intro i hi hk; omega
  | succ k ih =>
    intro i hi hk
    obtain ⟨j, oj, hij, hjN, hoj, e, he, rfl, hb⟩ := ht.succ i hi
    rcases Nat.lt_or_ge j N with h | h
    · exact hc j oj hoj (ih j h (by omega)) e he hb
    · have : j = N := by omega
      subst this
      rw [ho] at hoj
      cases hoj
      exact hp e he hb
end
section
variable {n : Nat} {ops : Array Oper} {Q : Exit → Act → World → Prop} {i : Nat} {o : Oper} {K : Act → World → Prop} {a : Act} {w : World}
end
theorem SameM.frame {a0 a : Act} {dm : Nat → Nat} {N : Nat} (h : SameM a0 dm N a) (n : Nat) (hn : a0.tmps.size = n) :
    a = { tmps := ((List.range n).map fun t => if (List.range N).any (fun i => dm i == t) then a.tmps.getD t undef else a0.tmps.getD t undef).toArray, defers := a0.defers } := by
  obtain ⟨t, d⟩ := a
  have hd := h.defers
  have hs := h.size
  have ho := h.out
  simp only at hd hs ho
  subst hd
  congr 1
  apply Array.ext'
  apply List.ext_getElem?
  intro i
  show t.toList[i]? = (List.map _ (List.range n))[i]?
  rw [List.getElem?_map]
  rcases Nat.lt_or_ge i n with hi | hi
  · rw [List.getElem?_range hi]
    have hti : i < t.size := by omega
    simp only [Option.map_some]
    have hg : t.toList[i]? = some (t.getD i undef) := by simp [Array.getD_eq_getD_getElem?, hti]
    rw [hg]
    refine congrArg some ?_
    by_cases hx : (List.range N).any (fun q => dm q == i) = true
    · rw [if_pos hx]
    · rw [if_neg hx]
      refine ho i (fun j hj e => hx ?_)
      rw [List.any_eq_true]
      exact ⟨j, by simpa using hj, by simpa using e⟩
  · rw [List.getElem?_eq_none (by simpa using (by omega : t.size ≤ i)), List.getElem?_eq_none (by simpa using hi)]
    rfl
section
variable {o : Oper} {a : Act} {w w' : World} {n : Nat} {next : Act → World → Prop} {Q : Exit → Act → World → Prop} {v : Value}
theorem wpW_val (hrun : (execOp a.eval o).run Try.prog w = .ok (.value v) w') (h : next (a.put o.dst v) w') : o.wpIn Fence.wide n Try.prog a w next Q :=
  ⟨fun _ _ => trivial, by rw [Fence.wide_round, Oper.semAt_none, hrun]; exact h⟩
theorem wpW_call {f : FuncId} {args : Array Value} {R : Value → World → Prop} (hrun : (execOp a.eval o).run Try.prog w = .ok (.enter f args) w')
    (hc : Calls Try.prog f args w' fun e w'' => ∃ v, e = .returned v ∧ R v w'') (h : ∀ v w'', R v w'' → next (a.put o.dst v) w'') : o.wpIn Fence.wide n Try.prog a w next Q :=
  ⟨fun _ _ => trivial, by
    rw [Fence.wide_round, Oper.semAt_none, hrun]
    refine ⟨fun hh => by simp [Fence.wide] at hh, callsIn_wide.2 (hc.mono ?_)⟩
    rintro e w'' ⟨v, rfl, hR⟩
    exact h v w'' hR⟩
end
end Go.Proofs
