/- The reference's Enumerate; The walk of RewriteKnown. -/
import Derived.Test.YtcfighimnkfmeaaZ26
import Derived.Test.YtcfighimnkfmeaaZ18
namespace Go.Proofs
open Go.RowKit Go.Shelf Go.Proofs.Ct Go.Maps

/-- the cells of the numbers -/
structure NumC (q : Nat) (w : World) (a b c : Int) : Prop where
  c1 : w.cell? ⟨q, 0, none⟩ = some (.int .i64 a)
  c2 : w.cell? ⟨q, 1, none⟩ = some (.int .i64 b)
  c3 : w.cell? ⟨q, 2, none⟩ = some (.int .i64 c)
  f1 : w.frozen? ⟨q, 0, none⟩ = false
  f2 : w.frozen? ⟨q, 1, none⟩ = false
  f3 : w.frozen? ⟨q, 2, none⟩ = false
theorem NumC.lt {q : Nat} {w : World} {a b c : Int} (h : NumC q w a b c) : q < w.heap.size := World.block_lt_of_cell? w _ h.c1
theorem NumC.below {q : Nat} {w w' : World} {a b c : Int} (h : NumC q w a b c) {B : Nat} (hq : q < B) (hb : Below B w w') : NumC q w' a b c :=
  ⟨(hb.cell (p := ⟨q, 0, none⟩) hq).trans h.c1, (hb.cell (p := ⟨q, 1, none⟩) hq).trans h.c2, (hb.cell (p := ⟨q, 2, none⟩) hq).trans h.c3, (hb.frozen (p := ⟨q, 0, none⟩) hq).trans h.f1, (hb.frozen (p := ⟨q, 1, none⟩) hq).trans h.f2, (hb.frozen (p := ⟨q, 2, none⟩) hq).trans h.f3⟩
def setN (q : Nat) (w : World) (a b c : Int) : World := ((w.setCell ⟨q, 0, none⟩ (.int .i64 a)).setCell ⟨q, 1, none⟩ (.int .i64 b)).setCell ⟨q, 2, none⟩ (.int .i64 c)
theorem NumC.set {q : Nat} {w : World} {a b c : Int} (h : NumC q w a b c) (a' b' c' : Int) : NumC q (setN q w a' b' c') a' b' c' := by
  obtain ⟨c1, c2, c3, f1, f2, f3⟩ := h
  unfold setN
  refine ⟨(cell_set (cell_set (cell_set c1 _) _) _).trans ?_, (cell_set (cell_set (cell_set c2 _) _) _).trans ?_, (cell_set (cell_set (cell_set c3 _) _) _).trans ?_, ?_, ?_, ?_⟩ <;> simp [f1, f2, f3]
theorem setN_below {B q : Nat} {w w' : World} (h : Below B w w') (hq : B ≤ q) (a b c : Int) : Below B w (setN q w' a b c) :=
  ((h.setCell (p := ⟨q, 0, none⟩) hq _).setCell (p := ⟨q, 1, none⟩) hq _).setCell (p := ⟨q, 2, none⟩) hq _
theorem setN_tabB {B q : Nat} {w : World} {u : Value} {l : List (List Int)} (h : TabB B w u l) (h1 : q < B) (a b c : Int) : TabB B (setN q w a b c) u l :=
  ((h.setCell (p := ⟨q, 0, none⟩) h1 _).setCell (p := ⟨q, 1, none⟩) h1 _).setCell (p := ⟨q, 2, none⟩) h1 _
theorem res33 {q : Nat} {w : World} {v : Value} {a b c e : Int} (h : NumC q w a b c) (tmps : Array Value) (h6 : tmps[6]? = some v) (h7 : tmps[7]? = some (.pointer (some ⟨q, 0, none⟩))) (h8 : tmps[8]? = some (.int .i64 e)) :
    (results Try.f33 tmps).run Try.prog w = .ok (.tuple #[v, .agg #[.int .i64 a, .int .i64 b, .int .i64 c], .int .i64 e]) w := by
  obtain ⟨c1, c2, c3, -, -, -⟩ := h
  simp [results, Try.results33, go_sem, h6, h7, h8, asAddr, c1, c2, c3]
theorem givenE_good {g : Int} {rels sub : List W} {limit : Int} (h : givenE g rels sub limit = 0) : presE g rels = 0 ∧ badArgs g.toNat sub limit = false := by
  unfold givenE at h
  split at h
  · rename_i h1; exact absurd h h1
  · rename_i h1
    split at h
    · cases h
    · rename_i h2
      exact ⟨Decidable.byContradiction h1, by simpa using h2⟩
theorem enumE_given {g : Int} {rels sub : List W} {limit : Int} (h : givenE g rels sub limit ≠ 0) : enumE g rels sub limit = ([], (0, 0), givenE g rels sub limit) := by
  unfold givenE at h ⊢
  unfold enumE
  split
  · rfl
  · rename_i h1
    rw [if_neg h1] at h
    split
    · rfl
    · rename_i h2
      rw [if_neg h2] at h
      exact absurd rfl h
theorem bad_lim {g : Nat} {sub : List W} {limit : Int} (h : badArgs g sub limit = false) : 1 ≤ limit ∧ limit ≤ 20000 ∧ (sub.any fun w => w.any (letBad g)) = false := by
  unfold badArgs at h
  simp only [Bool.or_eq_false_iff, decide_eq_false_iff_not] at h
  obtain ⟨⟨⟨⟨h1, h2⟩, h3⟩, h4⟩, h5⟩ := h
  exact ⟨by omega, by omega, h3⟩

set_option maxRecDepth 100000 in
set_option maxHeartbeats 4000000 in
theorem enum33_any (w : World) (vr vs : Value) (g : Int) (rels sub : List W) (limit : Int) (hR : Tab w vr rels) (hS : Tab w vs sub) (hsm : ∀ j, (sub.getD j []).length ≤ 100000) (hsm2 : ∀ j, (rels.getD j []).length ≤ 100000) (hsl : sub.length ≤ 1000000) : Calls Try.prog 33 #[.agg #[.int .i64 g, vr], vs, .int .i64 limit] w (EnumPost g rels sub limit w) := by
  obtain ⟨Ar, cr, rfl⟩ := Tab.form hR
  obtain ⟨As, cs, rfl⟩ := Tab.form hS
  have HP : Hid (∀ W, W = (w.alloc (.cells #[.int .i64 g, .slice Ar rels.length cr] 40)).alloc (.cells #[.int .i64 0, .int .i64 0, .int .i64 0] 49) → Below w.heap.size w W ∧ W.heap[w.heap.size]? = some (.cells #[.int .i64 g, .slice Ar rels.length cr] 40 (0, 0)) ∧ NumC (w.heap.size + 1) W 0 0 0 ∧ W.heap.size = w.heap.size + 2) := Lib.hid fun W h => by
    subst h
    refine ⟨((Below.refl _ _).alloc (Nat.le_refl _) _).alloc (by simp) _, (Below.heap_alloc _ _ _ (by simp)).trans (heap_alloc_new w _), ?_, by simp⟩
    constructor <;> simp [go_sem]
  have HRR := Lib.hid hR
  have HSS := Lib.hid hS
  have H87 : Hid (∀ W, Tab W (.slice Ar rels.length cr) rels → Tab W (.slice As sub.length cs) sub → Calls Try.prog 87 #[.agg #[.int .i64 g, .slice Ar rels.length cr], .slice As sub.length cs, .int .i64 limit] W fun e w' => e = .returned (.int .i64 (givenE g rels sub limit)) ∧ Below W.heap.size W w') := Lib.hid fun W h1 h2 => given87_any W _ _ g rels sub limit h1 h2 hsm hsm2 hsl
  clear hR hS
  go_enter Try.func33, Try.ntmps33
  go_wp2_with fail
  generalize hw0 : (w.alloc (.cells #[.int .i64 g, .slice Ar rels.length cr] 40)).alloc (.cells #[.int .i64 0, .int .i64 0, .int .i64 0] 49) = w0 at *
  obtain ⟨hb0, hbx, hnc, hsz⟩ := HP.out w0 rfl
  have HB0 := Lib.hid hb0
  have HSZ := Lib.hid hsz
  have HBX : Hid (∀ W, Below w0.heap.size w0 W → W.heap[w.heap.size]? = some (.cells #[.int .i64 g, .slice Ar rels.length cr] 40 (0, 0)) ∧ NumC (w.heap.size + 1) W 0 0 0) := Lib.hid fun W h => ⟨(h.block _ (by omega)).trans hbx, hnc.below (by omega) h⟩
  clear hw0 hb0 hbx hnc hsz HP
  have H87' := Lib.hid (H87.out w0 (kept_tab.below HRR.out HB0.out) (kept_tab.below HSS.out HB0.out))
  clear H87
  by_cases he : givenE g rels sub limit = 0
  · have hgood := givenE_good he
    rw [he] at H87'
    obtain ⟨gn, rfl, hg1, hg16, hrl, hrg⟩ := presE_good hgood.1
    rw [Int.toNat_natCast] at hgood
    obtain ⟨hl1, hl2, hsb⟩ := bad_lim hgood.2
    obtain ⟨lim, rfl⟩ : ∃ lim : Nat, limit = (lim : Int) := ⟨limit.toNat, by omega⟩
    have HGD := Lib.hid hgood
    have HRG := Lib.hid hrg
    have HSG := Lib.hid (subs_good hsb)
    have H88 := Lib.hid fun W => begin88_any gn lim hg16 hg1 W
    have HRUN : Hid (∀ W2 W3, Below w.heap.size w W2 → Kf W2.heap.size W2 W3 → StR W2.heap.size W2.heap.size lim W3 (startS (2 * gn)) → Calls Try.prog 89 #[.pointer (some ⟨W2.heap.size, 0, none⟩), .agg #[.int .i64 (gn : Int), .slice Ar rels.length cr], .slice As sub.length cs] W3 fun e w' => ((∃ s', runS (2 * gn) lim rels sub = some s' ∧ e = .returned (.bool true) ∧ StR W2.heap.size W2.heap.size lim w' s') ∨ (runS (2 * gn) lim rels sub = none ∧ e = .returned (.bool false))) ∧ Below W2.heap.size W3 w') := Lib.hid fun W2 W3 hb hk hs => by
      exact run89_any gn (2 * gn) W2.heap.size W2.heap.size lim rfl hg16 hg1 W3 _ _ rels sub hs hk.size (by omega) (by omega) (Words.of (kept_tab.below HRR.out hb) hk.1) (Words.of (kept_tab.below HSS.out hb) hk.1) (getD_all (fun j hj => (HRG.out j hj).1) LOk.nil) (getD_all (fun j hj => HSG.out j hj) LOk.nil)
    clear he hgood hrg hsb
    cases hrun : runS (2 * gn) lim rels sub with
    | none =>
      have HEN := Lib.hid (enumE_full HGD.out.1 HGD.out.2 hrun)
      rw [hrun] at HRUN
      clear hrun
      go_wp2_with (first
        | (go_at_call 87; (with_reducible refine H87'.out.mono ?_); rintro e w1 ⟨rfl, hb⟩
           have HB1 := Lib.hid hb
           have HW1 := Lib.hid (HB0.out.trans (hb.mono HB0.out.size))
           have hcg := (cell_of2 (HBX.out _ hb).1).1
           clear hb)
        | (go_at_call 88; (with_reducible refine (H88.out w1).mono ?_); rintro e w2 ⟨rfl, hs2, hk2⟩
           have HS2 := Lib.hid hs2
           have HK2 := Lib.hid hk2
           have HB2 := Lib.hid (HB1.out.trans (hk2.1.mono HB1.out.size))
           have HW2 := Lib.hid (HW1.out.trans (hk2.1.mono HW1.out.size))
           have hbx2 := (HBX.out _ (HB1.out.trans (hk2.1.mono HB1.out.size))).1
           have HL2 := Lib.hid (load40 hbx2)
           clear hs2 hk2 hbx2 hcg)
        | ((with_reducible refine wpList_sel 24 ?_); refine wpList_val rfl (r_loadAt 40 (.tmp 3) _ _ rfl rfl HL2.out) ?_)
        | (go_at_call 89; (refine ((HRUN.out w1 w2 HW1.out HK2.out HS2.out).mono (R' := fun e w' => e = .returned (.bool false) ∧ Below w1.heap.size w2 w') fun e w' ⟨h, hb⟩ => ⟨by
             rcases h with ⟨s', h, -⟩ | ⟨-, h⟩
             · cases h
             · exact h, hb⟩).mono ?_); rintro e w3 ⟨rfl, hb⟩
           have HB3 := Lib.hid (HB2.out.trans (hb.mono HB1.out.size))
           have HW3 := Lib.hid (HW2.out.trans (hb.mono HW1.out.size))
           have hnc3 := (HBX.out _ (HB2.out.trans (hb.mono HB1.out.size))).2
           have HNC := Lib.hid (hnc3.set 0 0 0)
           obtain ⟨c1, c2, c3, f1, f2, f3⟩ := hnc3
           clear hb))
      refine bodyPost_ret (res33 (q := w.heap.size + 1) HNC.out _ rfl rfl rfl) rfl ?_
      exact EnumPost.err HEN.out (setN_below HW3.out (by omega) _ _ _)
    | some s' =>
      have HEN := Lib.hid (enumE_some HGD.out.1 HGD.out.2 hrun)
      have hgc := run_good (lim := lim) (g := gn) (by omega) (fun j hj => (HRG.out j hj).1) (fun j hj => HSG.out j hj) hrun
      have H90 : Hid (∀ W b, StR b b lim W s' → Calls Try.prog 90 #[.pointer (some ⟨b, 0, none⟩), .int .i64 (gn : Int)] W fun e w' => ∃ u, e = .returned u ∧ TabB W.heap.size w' u (stdE gn (tabS s') 0).1 ∧ Below W.heap.size W w') := Lib.hid fun W b h => result90_any gn (2 * gn) b b lim rfl hg16 hg1 W s' h hgc.1 hgc.2 (by omega)
      rw [hrun] at HRUN
      clear hrun hgc
      go_wp2_with (first
        | (go_at_call 87; (with_reducible refine H87'.out.mono ?_); rintro e w1 ⟨rfl, hb⟩
           have HB1 := Lib.hid hb
           have HW1 := Lib.hid (HB0.out.trans (hb.mono HB0.out.size))
           have hcg := (cell_of2 (HBX.out _ hb).1).1
           clear hb)
        | (go_at_call 88; (with_reducible refine (H88.out w1).mono ?_); rintro e w2 ⟨rfl, hs2, hk2⟩
           have HS2 := Lib.hid hs2
           have HK2 := Lib.hid hk2
           have HB2 := Lib.hid (HB1.out.trans (hk2.1.mono HB1.out.size))
           have HW2 := Lib.hid (HW1.out.trans (hk2.1.mono HW1.out.size))
           have hbx2 := (HBX.out _ (HB1.out.trans (hk2.1.mono HB1.out.size))).1
           have HL2 := Lib.hid (load40 hbx2)
           clear hs2 hk2 hbx2 hcg)
        | ((with_reducible refine wpList_sel 24 ?_); refine wpList_val rfl (r_loadAt 40 (.tmp 3) _ _ rfl rfl HL2.out) ?_)
        | (go_at_call 89; (refine ((HRUN.out w1 w2 HW1.out HK2.out HS2.out).mono (R' := fun e w' => e = .returned (.bool true) ∧ StR w1.heap.size w1.heap.size lim w' s' ∧ Below w1.heap.size w2 w') fun e w' ⟨h, hb⟩ => by
             rcases h with ⟨s'', h1, h2, h3⟩ | ⟨h, -⟩
             · cases h1; exact ⟨h2, h3, hb⟩
             · cases h).mono ?_); rintro e w3 ⟨rfl, hs3, hb⟩
           have HB3 := Lib.hid (HB2.out.trans (hb.mono HB1.out.size))
           have HW3 := Lib.hid (HW2.out.trans (hb.mono HW1.out.size))
           have HS3 := Lib.hid hs3
           have hcg := (cell_of2 (HBX.out _ (HB2.out.trans (hb.mono HB1.out.size))).1).1
           obtain ⟨Ag, cg, r2, -, r6⟩ := hs3.tops
           clear hb hs3))
      have HSX : Hid (∀ W, Below w3.heap.size w3 W → StR w1.heap.size w1.heap.size lim W s' ∧ W.cell? ⟨w1.heap.size, 0, none⟩ = some (.slice Ag s'.t.length cg) ∧ W.cell? ⟨w1.heap.size, 5, none⟩ = some (.int .i64 s'.most)) := Lib.hid fun W h => ⟨HS3.out.below h, (h.cell (p := ⟨w1.heap.size, 0, none⟩) (World.block_lt_of_cell? _ _ r2)).trans r2, (h.cell (p := ⟨w1.heap.size, 5, none⟩) (World.block_lt_of_cell? _ _ r6)).trans r6⟩
      generalize hQ : w.heap.size = Q at *
      generalize hQ2 : w1.heap.size = Q2 at *
      have HQ := Lib.hid hQ
      have HQ2 := Lib.hid hQ2
      clear hQ hQ2
      have hl0 : (0 : Int) ≤ (s'.t.length : Int) := Int.natCast_nonneg _
      have HNE : Hid (Q + 1 ≠ Q2) := Lib.hid (by
        have h1 := HB1.out.size
        have h2 := HSZ.out
        have h3 := HQ2.out
        omega)
      go_region_held3 (fun w' => w'.cell? ⟨Q, 0, none⟩ = some (.int .i64 (gn : Int)) ∧ w'.cell? ⟨Q2, 0, none⟩ = some (.slice Ag s'.t.length cg) ∧ w'.cell? ⟨Q2, 5, none⟩ = some (.int .i64 s'.most)) (first | (with_reducible exact HSQ.out) | go_keep)
        (first
          | (go_at_call 90; (refine (H90.out _ _ (HSX.out _ (Below.refl _ w3).drew).1).mono ?_); rintro e w4 ⟨u, rfl, ht4, hb⟩
             have hb4 : Below w3.heap.size w3 w4 := (Below.refl _ w3).drew.trans hb
             have HB4 := Lib.hid hb4
             have HT4 := Lib.hid ht4
             obtain ⟨-, r24, r64⟩ := HSX.out _ hb4
             obtain ⟨hbx4, hnc4⟩ := HBX.out _ (HB3.out.trans (hb4.mono HB3.out.size))
             have hcg4 := (cell_of2 hbx4).1
             have HNC := Lib.hid (hnc4.set s'.t.length s'.most 0)
             have HSQ : Hid ((((w4.setCell ⟨Q + 1, 0, none⟩ (.int .i64 (s'.t.length : Int))).setCell ⟨Q + 1, 1, none⟩ (.int .i64 s'.most)).setCell ⟨Q + 1, 2, none⟩ (.int .i64 0)).cell? ⟨Q, 0, none⟩ = some (.int .i64 (gn : Int)) ∧
                 (((w4.setCell ⟨Q + 1, 0, none⟩ (.int .i64 (s'.t.length : Int))).setCell ⟨Q + 1, 1, none⟩ (.int .i64 s'.most)).setCell ⟨Q + 1, 2, none⟩ (.int .i64 0)).cell? ⟨Q2, 0, none⟩ = some (.slice Ag s'.t.length cg) ∧
                 (((w4.setCell ⟨Q + 1, 0, none⟩ (.int .i64 (s'.t.length : Int))).setCell ⟨Q + 1, 1, none⟩ (.int .i64 s'.most)).setCell ⟨Q + 1, 2, none⟩ (.int .i64 0)).cell? ⟨Q2, 5, none⟩ = some (.int .i64 s'.most)) := Lib.hid
               ⟨(cell_set (cell_set (cell_set hcg4 _) _) _).trans (by simp), (cell_set (cell_set (cell_set r24 _) _) _).trans (by simp [HNE.out]), (cell_set (cell_set (cell_set r64 _) _) _).trans (by simp)⟩
             obtain ⟨c1, c2, c3, f1, f2, f3⟩ := hnc4
             clear hb hb4 ht4 hbx4))
      try go_wp2_with fail
      refine bodyPost_ret (res33 (q := Q + 1) HNC.out _ rfl rfl rfl) rfl ?_
      unfold EnumPost
      rw [HEN.out]
      have hq3 : Q + 1 < w3.heap.size := by
        have h1 := HB3.out.size
        have h2 := HSZ.out
        omega
      have hW4 : Below Q w w4 := HW3.out.trans (HB4.out.mono (by have := HW3.out.size; have := HQ.out; omega))
      rw [HQ.out]
      exact ⟨⟨_, rfl, (setN_tabB HT4.out hq3 s'.t.length s'.most 0).at_⟩, setN_below hW4 (by omega) _ _ _⟩
  · have HE : Hid (enumE g rels sub limit = ([], (0, 0), givenE g rels sub limit)) := Lib.hid (enumE_given he)
    have d1 : (givenE g rels sub limit != 0) = true := by simpa using he
    generalize givenE g rels sub limit = x at *
    clear he
    go_wp2_with (first
      | (go_at_call 87; (with_reducible refine H87'.out.mono ?_); rintro e w1 ⟨rfl, hb⟩
         have HB1 := Lib.hid hb
         have hnc := (HBX.out _ hb).2
         have HNC := Lib.hid (hnc.set 0 0 0)
         obtain ⟨c1, c2, c3, f1, f2, f3⟩ := hnc
         clear hb))
    refine bodyPost_ret (res33 (q := w.heap.size + 1) HNC.out _ rfl rfl rfl) rfl ?_
    exact EnumPost.err HE.out (setN_below (HB0.out.trans (HB1.out.mono HB0.out.size)) (by omega) _ _ _)
end Go.Proofs
namespace Go.Proofs
open Go.RowKit Go.Shelf Go.Proofs.Ct Go.Maps

def smallT : List (List Int) := [[1, 1], [2, 2, 2], [1, 2, 1, 2]]
def sixT : List (List Int) := [[2], [1, 1, 1], [3, 2, 1], [2], [3, 3, 3], [2, 1, 3]]
theorem known_count : countE 2 halfT = 3 ∧ (repsE 2 halfT).2 = 0 := by decide +kernel
theorem known_a : rewE 2 halfT 0 [1, 2, -1, 2] = ([3, 1], 0) := by decide +kernel
theorem known_b : rewE 2 halfT 1 [1, 2] = ([2, 1], 0) := by decide +kernel
theorem known_c : rewE 2 halfT 0 [1, -1] = ([], 0) := by decide +kernel
theorem known_p : presentE 2 smallT halfT = ((3, sixT), 0) := by decide +kernel
theorem known_q : presentE 2 smallT [[0, 0, 0, 0]] = ((2, smallT), 0) := by decide +kernel
theorem known_r : presentE 1 [] [[0, 0]] = ((1, []), 0) := by decide +kernel
theorem known_n : countE 1 [[1, 1], [0, 0]] = 1 ∧ (repsE 1 [[1, 1], [0, 0]]).2 = 0 := by decide +kernel
theorem known_g : rewE 2 halfT 2 [] = ([], 2) := by decide +kernel

theorem ints_blk {w : World} {b : Nat} {xs : List Int} (h : w.heap[b]? = some (.cells (ints xs).toArray 3 (0, 0))) (hf : Fits xs) {n : Nat} (hn : xs.length = n) (hm : n ≤ 1000) : IntsAt w (.slice (some ⟨b, 0, none⟩) n n) xs := by
  subst hn
  have hl : xs.length ≤ 9223372036854775807 := by omega
  refine ⟨⟨_, xs.length, xs.length, rfl, by simp [ints], Nat.le_refl _, by simpa [maxLen] using hl, fun _ => ⟨b, 0, rfl, fun j u hu => ?_⟩⟩, hf⟩
  rw [cell_of_row _ _ _ _ _ _ h, Nat.zero_add]
  simpa using hu
/-- rows in a block -/
theorem tab_blk {w : World} {b : Nat} {us : List Value} {xs : List (List Int)} {e : TypeId} (hb : w.heap[b]? = some (.cells us.toArray e (0, 0))) {n : Nat} (hn : us.length = n) (hl : us.length = xs.length) (hm : us.length ≤ 1000) (h : ∀ i, i < xs.length → IntsAt w (us.getD i undef) (xs.getD i [])) :
    Tab w (.slice (some ⟨b, 0, none⟩) n n) xs := by
  subst hn
  have hl9 : us.length ≤ 9223372036854775807 := by omega
  refine ⟨us, ⟨_, us.length, us.length, rfl, rfl, Nat.le_refl _, by simpa [maxLen] using hl9, fun _ => ⟨b, 0, rfl, fun j u hu => ?_⟩⟩, hl, fun i hi => ?_⟩
  · rw [cell_of_row _ _ _ _ _ _ hb, Nat.zero_add]
    simpa using hu
  · have hi' : i < us.length := by omega
    refine ⟨us.getD i undef, ?_, h i hi⟩
    simp [List.getD_eq_getElem?_getD, hi']
theorem fits_lit {xs : List Int} (h : (xs.all fun x => decide (-1000 ≤ x) && decide (x ≤ 1000)) = true) : Fits xs := fun x hx => by
  have := List.all_eq_true.1 h x hx
  simp at this
  omega
theorem tab_empty {w w' : World} {v : Value} (h : Tab w v []) : Tab w' v [] := by
  obtain ⟨vs, ⟨A, n, cap, e, hn, h3, h4, -⟩, hl, -⟩ := h
  have h0 : n = 0 := by rw [hn, hl]; rfl
  exact ⟨vs, ⟨A, n, cap, e, hn, h3, h4, fun h => absurd h (by omega)⟩, hl, fun i hi => absurd hi (by simp)⟩
theorem build40s (g : Int) (A : Option Addr) (n c : Nat) (w : World) : (Instr.build 40 #[(0, .int .i64 g), (1, .slice A n c)]).run Try.prog w = .ok (.agg #[.int .i64 g, .slice A n c]) w := by kernel_rfl
section
variable {o : Oper} {a : Act} {w w' : World} {n : Nat} {v : Value}
theorem r_build40s (x y : Operand) (g : Int) (A : Option Addr) (m c : Nat) (ho : o.op = .build 40 #[(0, x), (1, y)]) (hx : a.eval x = .int .i64 g) (hy : a.eval y = .slice A m c) : (execOp a.eval o).run Try.prog w = .ok (.value (.agg #[.int .i64 g, .slice A m c])) w := by
  have hb := build40s g A m c w
  unfold execOp
  simp only [ho, List.map_toArray, List.map_cons, List.map_nil, hx, hy, Sem.run_bind, hb, Result.andThen_ok]
  rfl
theorem r_call0 {f : FuncId} (T : Array TypeId) (ho : o.op = .call { callee := .value (.func f), args := #[], argTypes := T })
    (he : ∀ args w, (callFunc f args).run Try.prog w = .ok (.enter f args) w) : (execOp a.eval o).run Try.prog w = .ok (.enter f #[]) w := by
  have hf : a.eval (.func f) = .func (.func f) #[] #[] := rfl
  unfold execOp
  simp only [ho, resolve, List.map_toArray, List.map_nil, hf]
  simp [go_sem, he]
theorem r_eq0 (T : TypeId) (x y : Operand) (ho : o.op = .binOp .eql T x y T) (hx : a.eval x = .int .i64 0) (hy : a.eval y = .int .i64 0) (_hr : (binOp .eql T (.int .i64 0) (.int .i64 0)).run Try.prog w = .ok (.bool true) w) : (execOp a.eval o).run Try.prog w = .ok (.value (.bool true)) w := by
  unfold execOp
  simp only [ho, hx, hy]
  simp [go_sem]
end
theorem results_40 {fn : Func} {p : Tmp} (h : fn.results = #[.cell p 40]) (tmps : Array Value) (w : World) (g : Nat) (cs : Array Value)
    (hp : tmps.getD p undef = .pointer (some ⟨g, 0, none⟩)) (hg : w.heap[g]? = some (.cells cs 40 (0, 0))) (hs : cs.size = 2) :
    (results fn tmps).run Try.prog w = .ok (.agg cs) w := by
  have hp' : tmps[p]?.getD undef = .pointer (some ⟨g, 0, none⟩) := by simpa using hp
  simp [results, h, hp', asAddr, run_loadVar_row w g 40 40 cs (0, 0) _ hg Try.underlying40 rfl (by rw [hs]; exact info40s)]

def PresAt (g : Int) (l : List (List Int)) (w : World) (e : Ending) (w' : World) : Prop := (∃ A c, e = .returned (.agg #[.int .i64 g, .slice A l.length c]) ∧ Tab w' (.slice A l.length c) l) ∧ Below w.heap.size w w'
set_option maxRecDepth 100000 in
theorem small28_any (w : World) : Calls Try.prog 28 #[] w (PresAt 2 smallT w) := by
  have hg : ∀ i o, [Obj.cells zero40 40, .cells (ints [1, 1]).toArray 3, .cells (ints [2, 2, 2]).toArray 3, .cells (ints [1, 2, 1, 2]).toArray 3, .cells #[.slice (some ⟨w.heap.size + 1, 0, none⟩) 2 2, .slice (some ⟨w.heap.size + 1 + 1, 0, none⟩) 3 3, .slice (some ⟨w.heap.size + 1 + 1 + 1, 0, none⟩) 4 4] 25][i]? = some o →
      (((((w.alloc (.cells zero40 40)).alloc (.cells (ints [1, 1]).toArray 3)).alloc (.cells (ints [2, 2, 2]).toArray 3)).alloc (.cells (ints [1, 2, 1, 2]).toArray 3)).alloc (.cells #[.slice (some ⟨w.heap.size + 1, 0, none⟩) 2 2, .slice (some ⟨w.heap.size + 1 + 1, 0, none⟩) 3 3, .slice (some ⟨w.heap.size + 1 + 1 + 1, 0, none⟩) 4 4] 25)).heap[w.heap.size + i]? = some o := fun i o h => allocs_get _ w i o h
  have hb : Below w.heap.size w (((((w.alloc (.cells zero40 40)).alloc (.cells (ints [1, 1]).toArray 3)).alloc (.cells (ints [2, 2, 2]).toArray 3)).alloc (.cells (ints [1, 2, 1, 2]).toArray 3)).alloc (.cells #[.slice (some ⟨w.heap.size + 1, 0, none⟩) 2 2, .slice (some ⟨w.heap.size + 1 + 1, 0, none⟩) 3 3, .slice (some ⟨w.heap.size + 1 + 1 + 1, 0, none⟩) 4 4] 25)) :=
    allocs_below [Obj.cells zero40 40, .cells (ints [1, 1]).toArray 3, .cells (ints [2, 2, 2]).toArray 3, .cells (ints [1, 2, 1, 2]).toArray 3, .cells #[.slice (some ⟨w.heap.size + 1, 0, none⟩) 2 2, .slice (some ⟨w.heap.size + 1 + 1, 0, none⟩) 3 3, .slice (some ⟨w.heap.size + 1 + 1 + 1, 0, none⟩) 4 4] 25] w w.heap.size (Nat.le_refl _)
  have HG := Lib.hid hg
  have HB := Lib.hid hb
  have HX := Lib.hid (hg 0 _ rfl)
  clear hg hb
  go_enter Try.func28, Try.ntmps28
  go_wp2_with (first
    | ((with_reducible refine wpList_sel 0 ?_); refine wpList_val rfl (r_alloc40 rfl) ?_)
    | ((with_reducible refine wpList_sel 5 ?_); refine wpList_val rfl (r_build40s _ (.tmp 4) 2 _ _ _ rfl rfl rfl) ?_; refine wpList_skip rfl (r_store40 (.tmp 0) (.tmp 5) rfl w.heap.size zero40 _ rfl rfl HX.out rfl rfl (one40 _ _ _ _)) ?_))
  try simp only [Exit.inBlock, Exit.then]
  refine bodyPost_ret (results_40 (p := 0) rfl _ _ w.heap.size _ rfl (setRow_heap _ _ _ _ _ _ HX.out) rfl) rfl ⟨⟨_, _, rfl, ?_⟩, below_setRow HB.out (Nat.le_refl _) _⟩
  refine tab_blk ((setRow_other _ _ _ _ (by omega)).trans (HG.out 4 _ rfl)) rfl rfl (by simp) fun i hi => ?_
  have hi3 : i = 0 ∨ i = 1 ∨ i = 2 := by simp [smallT] at hi; omega
  rcases hi3 with rfl | rfl | rfl
  · exact ints_blk ((setRow_other _ _ _ _ (by omega)).trans (HG.out 1 _ rfl)) (fits_lit (by decide)) rfl (by omega)
  · exact ints_blk ((setRow_other _ _ _ _ (by omega)).trans (HG.out 2 _ rfl)) (fits_lit (by decide)) rfl (by omega)
  · exact ints_blk ((setRow_other _ _ _ _ (by omega)).trans (HG.out 3 _ rfl)) (fits_lit (by decide)) rfl (by omega)

/-- what a slot of the drawn region holds -/
inductive SP where
  | eq (v : Value) | ints (l : List Int) | tab (l : List (List Int)) | pres (g : Int) (l : List (List Int)) | any
def SP.holds : SP → Value → World → Prop
  | .eq u, v, _ => v = u
  | .ints l, v, w => IntsAt w v l
  | .tab l, v, w => ∃ A c, v = .slice A l.length c ∧ Tab w v l
  | .pres g l, v, w => ∃ A c, v = .agg #[.int .i64 g, .slice A l.length c] ∧ Tab w (.slice A l.length c) l
  | .any, _, _ => True
theorem SP.keep {s : SP} {v : Value} {w w' : World} (h : Below w.heap.size w w') : s.holds v w → s.holds v w' := by
  cases s with
  | eq u => exact id
  | ints l => exact fun k => k.below h
  | tab l => exact fun ⟨A, c, e, k⟩ => ⟨A, c, e, kept_tab.below k h⟩
  | pres g l => exact fun ⟨A, c, e, k⟩ => ⟨A, c, e, kept_tab.below k h⟩
  | any => exact id
def svK : List SP := [.eq (.int .i64 0), .eq (.bool true), .eq (.bool true), .eq (.int .i64 0), .eq (.bool true), .eq (.bool true), .eq (.bool true), .pres 3 sixT, .ints [2], .ints [1, 1, 1], .ints [3, 2, 1], .ints [2], .ints [3, 3, 3], .ints [2, 1, 3], .tab sixT, .pres 3 sixT, .eq (.bool true), .eq (.bool true), .eq (.bool true), .pres 2 smallT, .pres 2 smallT, .eq (.bool true), .eq (.bool true)]
theorem bs1 (x : Int) (w : World) : (Instr.buildSlice 25 1 #[(0, .int .i64 x)]).run Try.prog w = .ok (.slice (some ⟨w.heap.size, 0, none⟩) 1 1) (w.alloc (.cells #[.int .i64 x] 3)) := by kernel_rfl
theorem bs3 (x y z : Int) (w : World) : (Instr.buildSlice 25 3 #[(0, .int .i64 x), (1, .int .i64 y), (2, .int .i64 z)]).run Try.prog w = .ok (.slice (some ⟨w.heap.size, 0, none⟩) 3 3) (w.alloc (.cells #[.int .i64 x, .int .i64 y, .int .i64 z] 3)) := by kernel_rfl
theorem bs6 (A B C D E F : Option Addr) (n1 n2 n3 n4 n5 n6 c1 c2 c3 c4 c5 c6 : Nat) (w : World) : (Instr.buildSlice 31 6 #[(0, .slice A n1 c1), (1, .slice B n2 c2), (2, .slice C n3 c3), (3, .slice D n4 c4), (4, .slice E n5 c5), (5, .slice F n6 c6)]).run Try.prog w = .ok (.slice (some ⟨w.heap.size, 0, none⟩) 6 6) (w.alloc (.cells #[.slice A n1 c1, .slice B n2 c2, .slice C n3 c3, .slice D n4 c4, .slice E n5 c5, .slice F n6 c6] 25)) := by kernel_rfl
section
variable {o : Oper} {a : Act} {w w' : World} {n : Nat} {v : Value}
theorem r_bs1 (x : Operand) (i : Int) (ho : o.op = .buildSlice 25 1 #[(0, x)]) (hx : a.eval x = .int .i64 i) : (execOp a.eval o).run Try.prog w = .ok (.value (.slice (some ⟨w.heap.size, 0, none⟩) 1 1)) (w.alloc (.cells #[.int .i64 i] 3)) := by
  have hb := bs1 i w
  unfold execOp
  simp only [ho, List.map_toArray, List.map_cons, List.map_nil, hx, Sem.run_bind, hb, Result.andThen_ok]
  rfl
theorem r_bs3 (x y z : Operand) (i j k : Int) (ho : o.op = .buildSlice 25 3 #[(0, x), (1, y), (2, z)]) (hx : a.eval x = .int .i64 i) (hy : a.eval y = .int .i64 j) (hz : a.eval z = .int .i64 k) : (execOp a.eval o).run Try.prog w = .ok (.value (.slice (some ⟨w.heap.size, 0, none⟩) 3 3)) (w.alloc (.cells #[.int .i64 i, .int .i64 j, .int .i64 k] 3)) := by
  have hb := bs3 i j k w
  unfold execOp
  simp only [ho, List.map_toArray, List.map_cons, List.map_nil, hx, hy, hz, Sem.run_bind, hb, Result.andThen_ok]
  rfl
theorem r_bs6 (x1 x2 x3 x4 x5 x6 : Operand) {A B C D E F : Option Addr} {n1 n2 n3 n4 n5 n6 c1 c2 c3 c4 c5 c6 : Nat} (ho : o.op = .buildSlice 31 6 #[(0, x1), (1, x2), (2, x3), (3, x4), (4, x5), (5, x6)])
    (h1 : a.eval x1 = .slice A n1 c1) (h2 : a.eval x2 = .slice B n2 c2) (h3 : a.eval x3 = .slice C n3 c3) (h4 : a.eval x4 = .slice D n4 c4) (h5 : a.eval x5 = .slice E n5 c5) (h6 : a.eval x6 = .slice F n6 c6) :
    (execOp a.eval o).run Try.prog w = .ok (.value (.slice (some ⟨w.heap.size, 0, none⟩) 6 6)) (w.alloc (.cells #[.slice A n1 c1, .slice B n2 c2, .slice C n3 c3, .slice D n4 c4, .slice E n5 c5, .slice F n6 c6] 25)) := by
  have hb := bs6 A B C D E F n1 n2 n3 n4 n5 n6 c1 c2 c3 c4 c5 c6 w
  unfold execOp
  simp only [ho, List.map_toArray, List.map_cons, List.map_nil, h1, h2, h3, h4, h5, h6, Sem.run_bind, hb, Result.andThen_ok]
  rfl
end
theorem ints_new {w : World} {xs : List Int} (hf : (xs.all fun x => decide (-1000 ≤ x) && decide (x ≤ 1000)) = true) {n : Nat} (hn : xs.length = n) (hm : n ≤ 1000) : IntsAt (w.alloc (.cells (ints xs).toArray 3)) (.slice (some ⟨w.heap.size, 0, none⟩) n n) xs :=
  ints_blk (heap_alloc_new w _) (fits_lit hf) hn hm
theorem call26 (args : Array Value) (w : World) : (callFunc 26 args).run Try.prog w = .ok (.enter 26 args) w := enters_of Try.func26 (by kernel_rfl) rfl args w
theorem call28 (args : Array Value) (w : World) : (callFunc 28 args).run Try.prog w = .ok (.enter 28 args) w := enters_of Try.func28 (by kernel_rfl) rfl args w
theorem same26_yes (w : World) (va vb : Value) (g : Int) (A : List (List Int)) (ha : Tab w va A) (hb : Tab w vb A) : Calls Try.prog 26 #[.agg #[.int .i64 g, va], .agg #[.int .i64 g, vb]] w fun e w' => e = .returned (.bool true) ∧ Below w.heap.size w w' :=
  (same26_any w va vb g g A A ha hb).mono fun _e _w' ⟨h, h'⟩ => ⟨h.trans (ret_bool (decide_eq_true ⟨rfl, rfl⟩)), h'⟩


set_option maxRecDepth 100000 in
set_option maxHeartbeats 8000000 in
theorem known_walk (w : World) : Calls Try.prog 5 #[] w fun e w' => e = .returned (.bool true) ∧ Below w.heap.size w w' := by
  have H16 : Hid (∀ (W : World) (u : Value), Tab W u halfT → Calls Try.prog 16 #[.int .i64 2, u] W fun e w' => e = .returned (.tuple #[.int .i64 3, .int .i64 0]) ∧ Below W.heap.size W w') := Lib.hid fun W u h => (count16_any W u 2 halfT h).mono fun e w' ⟨a, b⟩ => by rw [known_count.1, known_count.2] at a; exact ⟨a, b⟩
  have H20 : Hid (∀ (W : World) (u v : Value) (fr : Int) (ws l : List Int) (x : Int), rewE 2 halfT fr ws = (l, x) → Tab W u halfT → IntsAt W v ws → Calls Try.prog 20 #[.int .i64 2, u, .int .i64 fr, v] W fun e w' => (∃ A c, e = .returned (.tuple #[.slice A l.length c, .int .i64 x]) ∧ Hid (IntsAt w' (.slice A l.length c) l)) ∧ Below W.heap.size W w') := Lib.hid fun W u v fr ws l x hE hu hv => (rewrite20_any W u v 2 fr halfT ws hu hv).mono fun e w' ⟨⟨z, h1, h2⟩, h3⟩ => by
    rw [hE] at h1 h2
    obtain ⟨A, c, rfl, -, -, -⟩ := h2.open_
    exact ⟨⟨A, c, h1, Lib.hid h2⟩, h3⟩
  have H24 : Hid (∀ (W : World) (v u : Value) (g : Int) (rels : List (List Int)) (t : Tb) (m : Int) (l : List (List Int)), presentE g rels t = ((m, l), 0) → Tab W v rels → Tab W u t → Calls Try.prog 24 #[.agg #[.int .i64 g, v], u] W fun e w' => (∃ A c, e = .returned (.tuple #[.agg #[.int .i64 m, .slice A l.length c], .int .i64 0]) ∧ Hid (Tab w' (.slice A l.length c) l)) ∧ Below W.heap.size W w') := Lib.hid fun W v u g rels t m l hE hv hu => (present24_any W v u g rels t hv hu).mono fun e w' ⟨⟨z, h1, h2⟩, h3⟩ => by
    rw [hE] at h1 h2
    obtain ⟨A, c, rfl⟩ := Tab.form h2
    exact ⟨⟨A, c, h1, Lib.hid h2⟩, h3⟩
  have H23 : Hid (∀ (W : World) (u v : Value) (x : List Int), IntsAt W u x → IntsAt W v x → Calls Try.prog 23 #[u, v] W fun e w' => e = .returned (.bool true) ∧ Below W.heap.size W w') := Lib.hid fun W u v x h1 h2 => (equal23_any W u v x x h1 h2).mono fun e w' ⟨h, h'⟩ => ⟨h.trans (ret_bool (decide_eq_true rfl)), h'⟩
  have HL : Hid (∀ (W : World) (xs : List Int), Below W.heap.size W (W.alloc (.cells (ints xs).toArray 3))) := Lib.hid fun W xs => (Below.refl _ _).alloc (Nat.le_refl _) _
  go_enter Try.func5, Try.ntmps5
  go_wp2_with fail
  refine (half27_any _).mono ?_
  rintro e w1 ⟨⟨u1, rfl, hu1⟩, hb1⟩
  obtain ⟨A1, c1, rfl⟩ := Tab.form hu1
  have HU1 := Lib.hid hu1
  have HB1 := Lib.hid hb1
  clear hu1 hb1
  go_wp2_with fail
  refine (H16.out _ _ HU1.out).mono ?_
  rintro e w2 ⟨rfl, hb⟩
  have HB2 := Lib.hid (HB1.out.trans (hb.mono HB1.out.size))
  clear hb HB1 HU1
  go_wp2_with fail
  refine (half27_any _).mono ?_
  rintro e w3 ⟨⟨u3, rfl, hu⟩, hb⟩
  obtain ⟨A3, c3, rfl⟩ := Tab.form hu
  have HU3 := Lib.hid hu
  have HB3 := Lib.hid (HB2.out.trans (hb.mono HB2.out.size))
  clear hu hb HB2
  go_wp2_with fail
  refine (H20.out _ _ _ 0 [1, 2, -1, 2] [3, 1] 0 known_a (kept_tab.below HU3.out (HL.out w3 [1, 2, -1, 2])) (ints_new (w := w3) (xs := [1, 2, -1, 2]) (by decide) rfl (by simp))).mono ?_
  rintro e w4 ⟨⟨A4, c4, rfl, HR4⟩, hb⟩
  have HB4 := Lib.hid (HB3.out.trans (((HL.out w3 [1, 2, -1, 2]).trans (hb.mono (HL.out w3 [1, 2, -1, 2]).size)).mono HB3.out.size))
  clear hb HB3 HU3
  go_wp2_with fail
  refine (half27_any _).mono ?_
  rintro e w5 ⟨⟨u5, rfl, hu⟩, hb⟩
  obtain ⟨A5, c5, rfl⟩ := Tab.form hu
  have HU5 := Lib.hid hu
  have HR5 := Lib.hid (HR4.out.below hb)
  have HB5 := Lib.hid (HB4.out.trans (hb.mono HB4.out.size))
  clear hu hb HB4 HR4
  go_wp2_with fail
  refine (H20.out _ _ _ 1 [1, 2] [2, 1] 0 known_b (kept_tab.below HU5.out (HL.out w5 [1, 2])) (ints_new (w := w5) (xs := [1, 2]) (by decide) rfl (by simp))).mono ?_
  rintro e w6 ⟨⟨A6, c6, rfl, HS6⟩, hb⟩
  have HR6 := Lib.hid (HR5.out.below ((HL.out w5 [1, 2]).trans (hb.mono (HL.out w5 [1, 2]).size)))
  have HB6 := Lib.hid (HB5.out.trans (((HL.out w5 [1, 2]).trans (hb.mono (HL.out w5 [1, 2]).size)).mono HB5.out.size))
  clear hb HB5 HU5 HR5
  go_wp2_with fail
  refine (half27_any _).mono ?_
  rintro e w7 ⟨⟨u7, rfl, hu⟩, hb⟩
  obtain ⟨A7, c7, rfl⟩ := Tab.form hu
  have HU7 := Lib.hid hu
  have HR7 := Lib.hid (HR6.out.below hb)
  have HS7 := Lib.hid (HS6.out.below hb)
  have HB7 := Lib.hid (HB6.out.trans (hb.mono HB6.out.size))
  clear hu hb HB6 HR6 HS6
  go_wp2_with fail
  refine (H20.out _ _ _ 0 [1, -1] [] 0 known_c (kept_tab.below HU7.out (HL.out w7 [1, -1])) (ints_new (w := w7) (xs := [1, -1]) (by decide) rfl (by simp))).mono ?_
  rintro e w8 ⟨⟨A8, c8, rfl, -⟩, hb⟩
  have hbb := (HL.out w7 [1, -1]).trans (hb.mono (HL.out w7 [1, -1]).size)
  have HR8 := Lib.hid (HR7.out.below hbb)
  have HS8 := Lib.hid (HS7.out.below hbb)
  have HB8 := Lib.hid (HB7.out.trans (hbb.mono HB7.out.size))
  clear hb hbb HB7 HU7 HR7 HS7
  go_wp2_with fail
  refine (H23.out _ _ _ [3, 1] (HR8.out.below (HL.out w8 [3, 1])) (ints_new (w := w8) (xs := [3, 1]) (by decide) rfl (by simp))).mono ?_
  rintro e w9 ⟨rfl, hb⟩
  have hbb := (HL.out w8 [3, 1]).trans (hb.mono (HL.out w8 [3, 1]).size)
  have HS9 := Lib.hid (HS8.out.below hbb)
  have HB9 := Lib.hid (HB8.out.trans (hbb.mono HB8.out.size))
  clear hb hbb HB8 HR8 HS8
  go_wp2_with fail
  refine (H23.out _ _ _ [2, 1] (HS9.out.below (HL.out w9 [2, 1])) (ints_new (w := w9) (xs := [2, 1]) (by decide) rfl (by simp))).mono ?_
  rintro e w10 ⟨rfl, hb⟩
  have hbb := (HL.out w9 [2, 1]).trans (hb.mono (HL.out w9 [2, 1]).size)
  have HB10 := Lib.hid (HB9.out.trans (hbb.mono HB9.out.size))
  clear hb hbb HB9 HS9
  go_wp2_with fail
  refine (small28_any _).mono ?_
  rintro e w11 ⟨⟨A11, c11, rfl, ht⟩, hb⟩
  have HT11 := Lib.hid ht
  have HB11 := Lib.hid (HB10.out.trans (hb.mono HB10.out.size))
  clear hb ht HB10
  go_wp2_with fail
  refine (half27_any _).mono ?_
  rintro e w12 ⟨⟨u12, rfl, hu⟩, hb⟩
  obtain ⟨A12, c12, rfl⟩ := Tab.form hu
  have HU12 := Lib.hid hu
  have HT12 := Lib.hid (kept_tab.below HT11.out hb)
  have HB12 := Lib.hid (HB11.out.trans (hb.mono HB11.out.size))
  clear hu hb HB11 HT11
  go_wp2_with fail
  refine (H24.out _ _ _ 2 smallT halfT 3 sixT known_p HT12.out HU12.out).mono ?_
  rintro e w13 ⟨⟨A13, c13, rfl, HT13⟩, hb⟩
  have HB13 := Lib.hid (HB12.out.trans (hb.mono HB12.out.size))
  have HN13 := Lib.hid (heap_alloc_new w13 (.cells zero40 40))
  have HX13 := Lib.hid (setRow_heap (w13.alloc (.cells zero40 40)) w13.heap.size zero40 #[.int .i64 3, .slice A13 sixT.length c13] 40 (0, 0) HN13.out)
  have hbx := below_boxed (Below.refl w13.heap.size w13) (.cells zero40 40) #[.int .i64 3, .slice A13 sixT.length c13]
  have HB14 := Lib.hid (HB13.out.trans (hbx.mono HB13.out.size))
  have HT14 := Lib.hid (kept_tab.below HT13.out hbx)
  clear hb hbx HB12 HU12 HT12
  go_wp2_with ((with_reducible refine wpList_sel 10 ?_); refine wpList_val rfl (r_alloc40 rfl) ?_; refine wpList_skip rfl (r_store40 (.tmp 10) (.tmp 73) rfl w13.heap.size zero40 #[.int .i64 3, .slice A13 sixT.length c13] rfl rfl HN13.out rfl rfl (one40 _ _ _ _)) ?_)
  generalize hw14 : (w13.alloc (.cells zero40 40)).setRow w13.heap.size #[.int .i64 3, .slice A13 sixT.length c13] = w14 at *
  have hl14 : w.heap.size ≤ w13.heap.size := HB13.out.size
  have HL14 := Lib.hid hl14
  clear hw14 HN13 HT13 HB13 hl14
  refine (small28_any _).mono ?_
  rintro e w15 ⟨⟨A15, c15, rfl, ht⟩, hb⟩
  have HT15 := Lib.hid ht
  have HX15 := Lib.hid ((hb.block _ (Array.getElem?_eq_some_iff.1 HX13.out).1).trans HX13.out)
  have HS15 := Lib.hid (kept_tab.below HT14.out hb)
  have HB15 := Lib.hid (HB14.out.trans (hb.mono HB14.out.size))
  clear hb ht HX13 HT14 HB14
  have hl1 := HL.out w15 [0, 0, 0, 0]
  have hl2 : Below (w15.alloc (.cells (ints [0, 0, 0, 0]).toArray 3)).heap.size (w15.alloc (.cells (ints [0, 0, 0, 0]).toArray 3)) ((w15.alloc (.cells (ints [0, 0, 0, 0]).toArray 3)).alloc (.cells #[.slice (some ⟨w15.heap.size, 0, none⟩) 4 4] 24)) := (Below.refl _ _).alloc (Nat.le_refl _) _
  have hl3 := hl1.trans (hl2.mono hl1.size)
  have HL3 := Lib.hid hl3
  have HTB : Hid (Tab ((w15.alloc (.cells (ints [0, 0, 0, 0]).toArray 3)).alloc (.cells #[.slice (some ⟨w15.heap.size, 0, none⟩) 4 4] 24)) (.slice (some ⟨w15.heap.size + 1, 0, none⟩) 1 1) [[0, 0, 0, 0]]) := Lib.hid (by
    have := tab_one (ints_new (w := w15) (xs := [0, 0, 0, 0]) (by decide) rfl (by simp) (n := 4))
    rwa [World.size_alloc] at this)
  clear hl1 hl2 hl3
  go_wp2_with fail
  refine (H24.out _ _ _ 2 smallT [[0, 0, 0, 0]] 2 smallT known_q (kept_tab.below HT15.out HL3.out) HTB.out).mono ?_
  rintro e w16 ⟨⟨A16, c16, rfl, HT16⟩, hb⟩
  have hbb := HL3.out.trans (hb.mono HL3.out.size)
  have HB16 := Lib.hid (HB15.out.trans (hbb.mono HB15.out.size))
  have hX16 := (hbb.block _ (Array.getElem?_eq_some_iff.1 HX15.out).1).trans HX15.out
  have hS16 := kept_tab.below HS15.out hbb
  have HN16 := Lib.hid (heap_alloc_new w16 (.cells zero40 40))
  have HX11 := Lib.hid (setRow_heap (w16.alloc (.cells zero40 40)) w16.heap.size zero40 #[.int .i64 2, .slice A16 smallT.length c16] 40 (0, 0) HN16.out)
  have hbx := below_boxed (Below.refl w16.heap.size w16) (.cells zero40 40) #[.int .i64 2, .slice A16 smallT.length c16]
  have HX10 := Lib.hid ((hbx.block _ (Array.getElem?_eq_some_iff.1 hX16).1).trans hX16)
  have HT10 := Lib.hid (kept_tab.below hS16 hbx)
  have HT11 := Lib.hid (kept_tab.below HT16.out hbx)
  have HBN := Lib.hid (HB16.out.trans (hbx.mono HB16.out.size))
  clear hb hbb hbx hX16 hS16 HX15 HS15 HB15 HT15 HT16 HTB HL3
  go_wp2_with ((with_reducible refine wpList_sel 11 ?_); refine wpList_val rfl (r_alloc40 rfl) ?_; refine wpList_skip rfl (r_store40 (.tmp 11) (.tmp 80) rfl w16.heap.size zero40 #[.int .i64 2, .slice A16 smallT.length c16] rfl rfl HN16.out rfl rfl (one40 _ _ _ _)) ?_)
  generalize hwn : (w16.alloc (.cells zero40 40)).setRow w16.heap.size #[.int .i64 2, .slice A16 smallT.length c16] = wn at *
  clear hwn HN16 HB16
  refine (wpIn_wide (n := 3)).1 ?_
  refine wpIn_region_g (by kernel_rfl) (fun i => 82 + i) 23 (tailed1_of (by kernel_rfl)) (fun _ w' => Below wn.heap.size wn w') (fun q v w => (svK.getD q SP.any).holds v w) (fun _ w w' => Below w.heap.size w w') (fun i j _ _ h => by simpa using h) (fun i j v w w' _ _ _ h => SP.keep h) (fun i hi => by show 82 + i < 152; omega) (Below.refl _ _).drew ?_ ?_
  · intro ls q o a w2 hq ho hS hls hsame hpre
    have hsz : a.tmps.size = 152 := hsame.size
    have hcases : q = 0 ∨ q = 1 ∨ q = 2 ∨ q = 3 ∨ q = 4 ∨ q = 5 ∨ q = 6 ∨ q = 7 ∨ q = 8 ∨ q = 9 ∨ q = 10 ∨ q = 11 ∨ q = 12 ∨ q = 13 ∨ q = 14 ∨ q = 15 ∨ q = 16 ∨ q = 17 ∨ q = 18 ∨ q = 19 ∨ q = 20 ∨ q = 21 ∨ q = 22 := by omega
    rcases hcases with rfl | rfl | rfl | rfl | rfl | rfl | rfl | rfl | rfl | rfl | rfl | rfl | rfl | rfl | rfl | rfl | rfl | rfl | rfl | rfl | rfl | rfl | rfl
    · obtain rfl := Option.some.inj ho; exact wpOpIn_of rfl rfl (wpW_val (r_move (.tmp 2) rfl ((hsame.out 2 (fun i _ h => by omega)))) ⟨_, rfl, hS, Below.refl _ _, rfl⟩)
    · obtain rfl := Option.some.inj ho; exact wpOpIn_of rfl rfl (wpW_val (r_eq0 28 (.tmp 82) (.const (.int .i64 0)) rfl (hpre ⟨0, .data⟩ (by simp) rfl) rfl (by kernel_rfl)) ⟨_, rfl, hS, Below.refl _ _, rfl⟩)
    · obtain rfl := Option.some.inj ho; exact wpOpIn_of rfl rfl (wpW_val (r_move (.tmp 83) rfl (hpre ⟨1, .data⟩ (by simp) rfl)) ⟨_, rfl, hS, Below.refl _ _, rfl⟩)
    · obtain rfl := Option.some.inj ho; exact wpOpIn_yes rfl rfl (yielded_of (g := 2) (t := 84) (b := true) rfl rfl (by omega) (hpre ⟨2, .guard⟩ (by simp) rfl)) (wpW_val (r_move (.tmp 4) rfl ((hsame.out 4 (fun i _ h => by omega)))) ⟨_, rfl, hS, Below.refl _ _, rfl⟩)
    · obtain rfl := Option.some.inj ho; exact wpOpIn_yes rfl rfl (yielded_of (g := 2) (t := 84) (b := true) rfl rfl (by omega) (hpre ⟨2, .guard⟩ (by simp) rfl)) (wpW_val (r_eq0 28 (.tmp 85) (.const (.int .i64 0)) rfl (hpre ⟨3, .data⟩ (by simp) rfl) rfl (by kernel_rfl)) ⟨_, rfl, hS, Below.refl _ _, rfl⟩)
    · obtain rfl := Option.some.inj ho; exact wpOpIn_of rfl rfl (wpW_val (r_pick (.tmp 84) (.tmp 86) (.const (.bool false)) true rfl (hpre ⟨2, .data⟩ (by simp) rfl) (by exact (hpre ⟨4, .data⟩ (by simp) rfl))) ⟨_, rfl, hS, Below.refl _ _, rfl⟩)
    · obtain rfl := Option.some.inj ho; exact wpOpIn_of rfl rfl (wpW_val (r_move (.tmp 87) rfl (hpre ⟨5, .data⟩ (by simp) rfl)) ⟨_, rfl, hS, Below.refl _ _, rfl⟩)
    · obtain rfl := Option.some.inj ho; exact wpOpIn_yes rfl rfl (yielded_of (g := 6) (t := 88) (b := true) rfl rfl (by omega) (hpre ⟨6, .guard⟩ (by simp) rfl)) (wpW_val (r_loadAt 40 (.tmp 10) _ _ rfl ((hsame.out 10 (fun i _ h => by omega))) (load40 ((hS.block _ (Array.getElem?_eq_some_iff.1 HX10.out).1).trans HX10.out))) ⟨_, rfl, hS, Below.refl _ _, A13, c13, rfl, kept_tab.below HT10.out hS⟩)
    · obtain rfl := Option.some.inj ho; exact wpOpIn_yes rfl rfl (yielded_of (g := 6) (t := 88) (b := true) rfl rfl (by omega) (hpre ⟨6, .guard⟩ (by simp) rfl)) (wpW_val (r_bs1 (.const (.int .i64 2)) 2 rfl rfl) ⟨_, rfl, hS.alloc hS.size _, (Below.refl _ _).alloc (Nat.le_refl _) _, ints_new (xs := [2]) (by decide) rfl (by simp)⟩)
    · obtain rfl := Option.some.inj ho; exact wpOpIn_yes rfl rfl (yielded_of (g := 6) (t := 88) (b := true) rfl rfl (by omega) (hpre ⟨6, .guard⟩ (by simp) rfl)) (wpW_val (r_bs3 (.const (.int .i64 1)) (.const (.int .i64 1)) (.const (.int .i64 1)) 1 1 1 rfl rfl rfl rfl) ⟨_, rfl, hS.alloc hS.size _, (Below.refl _ _).alloc (Nat.le_refl _) _, ints_new (xs := [1, 1, 1]) (by decide) rfl (by simp)⟩)
    · obtain rfl := Option.some.inj ho; exact wpOpIn_yes rfl rfl (yielded_of (g := 6) (t := 88) (b := true) rfl rfl (by omega) (hpre ⟨6, .guard⟩ (by simp) rfl)) (wpW_val (r_bs3 (.const (.int .i64 3)) (.const (.int .i64 2)) (.const (.int .i64 1)) 3 2 1 rfl rfl rfl rfl) ⟨_, rfl, hS.alloc hS.size _, (Below.refl _ _).alloc (Nat.le_refl _) _, ints_new (xs := [3, 2, 1]) (by decide) rfl (by simp)⟩)
    · obtain rfl := Option.some.inj ho; exact wpOpIn_yes rfl rfl (yielded_of (g := 6) (t := 88) (b := true) rfl rfl (by omega) (hpre ⟨6, .guard⟩ (by simp) rfl)) (wpW_val (r_bs1 (.const (.int .i64 2)) 2 rfl rfl) ⟨_, rfl, hS.alloc hS.size _, (Below.refl _ _).alloc (Nat.le_refl _) _, ints_new (xs := [2]) (by decide) rfl (by simp)⟩)
    · obtain rfl := Option.some.inj ho; exact wpOpIn_yes rfl rfl (yielded_of (g := 6) (t := 88) (b := true) rfl rfl (by omega) (hpre ⟨6, .guard⟩ (by simp) rfl)) (wpW_val (r_bs3 (.const (.int .i64 3)) (.const (.int .i64 3)) (.const (.int .i64 3)) 3 3 3 rfl rfl rfl rfl) ⟨_, rfl, hS.alloc hS.size _, (Below.refl _ _).alloc (Nat.le_refl _) _, ints_new (xs := [3, 3, 3]) (by decide) rfl (by simp)⟩)
    · obtain rfl := Option.some.inj ho; exact wpOpIn_yes rfl rfl (yielded_of (g := 6) (t := 88) (b := true) rfl rfl (by omega) (hpre ⟨6, .guard⟩ (by simp) rfl)) (wpW_val (r_bs3 (.const (.int .i64 2)) (.const (.int .i64 1)) (.const (.int .i64 3)) 2 1 3 rfl rfl rfl rfl) ⟨_, rfl, hS.alloc hS.size _, (Below.refl _ _).alloc (Nat.le_refl _) _, ints_new (xs := [2, 1, 3]) (by decide) rfl (by simp)⟩)
    · obtain rfl := Option.some.inj ho
      have k0 : IntsAt w2 (a.tmps.getD 90 undef) [2] := (hpre ⟨8, .data⟩ (by simp) rfl)
      obtain ⟨A0, c0, e0, -, -, -⟩ := k0.open_
      rw [e0] at k0
      have k1 : IntsAt w2 (a.tmps.getD 91 undef) [1, 1, 1] := (hpre ⟨9, .data⟩ (by simp) rfl)
      obtain ⟨A1, c1, e1, -, -, -⟩ := k1.open_
      rw [e1] at k1
      have k2 : IntsAt w2 (a.tmps.getD 92 undef) [3, 2, 1] := (hpre ⟨10, .data⟩ (by simp) rfl)
      obtain ⟨A2, c2, e2, -, -, -⟩ := k2.open_
      rw [e2] at k2
      have k3 : IntsAt w2 (a.tmps.getD 93 undef) [2] := (hpre ⟨11, .data⟩ (by simp) rfl)
      obtain ⟨A3, c3, e3, -, -, -⟩ := k3.open_
      rw [e3] at k3
      have k4 : IntsAt w2 (a.tmps.getD 94 undef) [3, 3, 3] := (hpre ⟨12, .data⟩ (by simp) rfl)
      obtain ⟨A4, c4, e4, -, -, -⟩ := k4.open_
      rw [e4] at k4
      have k5 : IntsAt w2 (a.tmps.getD 95 undef) [2, 1, 3] := (hpre ⟨13, .data⟩ (by simp) rfl)
      obtain ⟨A5, c5, e5, -, -, -⟩ := k5.open_
      rw [e5] at k5
      have hbb : Below w2.heap.size w2 (w2.alloc (.cells #[.slice A0 1 c0, .slice A1 3 c1, .slice A2 3 c2, .slice A3 1 c3, .slice A4 3 c4, .slice A5 3 c5] 25)) := (Below.refl _ _).alloc (Nat.le_refl _) _
      exact wpOpIn_yes rfl rfl (yielded_of (g := 6) (t := 88) (b := true) rfl rfl (by omega) (hpre ⟨6, .guard⟩ (by simp) rfl)) (wpW_val (r_bs6 (.tmp 90) (.tmp 91) (.tmp 92) (.tmp 93) (.tmp 94) (.tmp 95) rfl e0 e1 e2 e3 e4 e5) ⟨_, rfl, hS.trans (hbb.mono hS.size), hbb, _, _, rfl, tab_blk (us := [.slice A0 1 c0, .slice A1 3 c1, .slice A2 3 c2, .slice A3 1 c3, .slice A4 3 c4, .slice A5 3 c5]) (xs := sixT) (heap_alloc_new w2 _) rfl rfl (by simp) (fun i hi => by
        have h6 : i = 0 ∨ i = 1 ∨ i = 2 ∨ i = 3 ∨ i = 4 ∨ i = 5 := by simp [sixT] at hi; omega
        rcases h6 with rfl | rfl | rfl | rfl | rfl | rfl
        · exact k0.below hbb
        · exact k1.below hbb
        · exact k2.below hbb
        · exact k3.below hbb
        · exact k4.below hbb
        · exact k5.below hbb)⟩)
    · obtain rfl := Option.some.inj ho
      obtain ⟨A9, c9, e9, t9⟩ : SP.holds (.tab sixT) (a.tmps.getD 96 undef) w2 := (hpre ⟨14, .data⟩ (by simp) rfl)
      exact wpOpIn_yes rfl rfl (yielded_of (g := 6) (t := 88) (b := true) rfl rfl (by omega) (hpre ⟨6, .guard⟩ (by simp) rfl)) (wpW_val (r_build40s (.const (.int .i64 3)) (.tmp 96) 3 A9 6 c9 rfl rfl e9) ⟨_, rfl, hS, Below.refl _ _, A9, c9, rfl, by rw [e9] at t9; exact t9⟩)
    · obtain rfl := Option.some.inj ho
      obtain ⟨A8, c8, e8, t8⟩ : SP.holds (.pres 3 sixT) (a.tmps.getD 89 undef) w2 := (hpre ⟨7, .data⟩ (by simp) rfl)
      obtain ⟨A9, c9, e9, t9⟩ : SP.holds (.pres 3 sixT) (a.tmps.getD 97 undef) w2 := (hpre ⟨15, .data⟩ (by simp) rfl)
      exact wpOpIn_yes rfl rfl (yielded_of (g := 6) (t := 88) (b := true) rfl rfl (by omega) (hpre ⟨6, .guard⟩ (by simp) rfl)) (wpW_call (R := fun v w' => v = .bool true ∧ Below w2.heap.size w2 w') (r_call2 (.tmp 89) (.tmp 97) _ _ _ rfl e8 e9 call26) ((same26_yes w2 _ _ 3 sixT t8 t9).mono fun e w' ⟨he, hb⟩ => ⟨_, he, rfl, hb⟩) (fun v w'' h => ⟨v, rfl, hS.trans (h.2.mono hS.size), h.2, h.1⟩))
    · obtain rfl := Option.some.inj ho; exact wpOpIn_of rfl rfl (wpW_val (r_pick (.tmp 88) (.tmp 98) (.const (.bool false)) true rfl (hpre ⟨6, .data⟩ (by simp) rfl) (by exact (hpre ⟨16, .data⟩ (by simp) rfl))) ⟨_, rfl, hS, Below.refl _ _, rfl⟩)
    · obtain rfl := Option.some.inj ho; exact wpOpIn_of rfl rfl (wpW_val (r_move (.tmp 99) rfl (hpre ⟨17, .data⟩ (by simp) rfl)) ⟨_, rfl, hS, Below.refl _ _, rfl⟩)
    · obtain rfl := Option.some.inj ho; exact wpOpIn_yes rfl rfl (yielded_of (g := 18) (t := 100) (b := true) rfl rfl (by omega) (hpre ⟨18, .guard⟩ (by simp) rfl)) (wpW_val (r_loadAt 40 (.tmp 11) _ _ rfl ((hsame.out 11 (fun i _ h => by omega))) (load40 ((hS.block _ (Array.getElem?_eq_some_iff.1 HX11.out).1).trans HX11.out))) ⟨_, rfl, hS, Below.refl _ _, A16, c16, rfl, kept_tab.below HT11.out hS⟩)
    · obtain rfl := Option.some.inj ho
      exact wpOpIn_yes rfl rfl (yielded_of (g := 18) (t := 100) (b := true) rfl rfl (by omega) (hpre ⟨18, .guard⟩ (by simp) rfl)) (wpW_call (R := fun v w' => SP.holds (.pres 2 smallT) v w' ∧ Below w2.heap.size w2 w') (r_call0 _ rfl call28) ((small28_any w2).mono fun e w' ⟨⟨A, c, he, ht⟩, hb⟩ => ⟨_, he, ⟨A, c, rfl, ht⟩, hb⟩) (fun v w'' h => ⟨v, rfl, hS.trans (h.2.mono hS.size), h.2, h.1⟩))
    · obtain rfl := Option.some.inj ho
      obtain ⟨A8, c8, e8, t8⟩ : SP.holds (.pres 2 smallT) (a.tmps.getD 101 undef) w2 := (hpre ⟨19, .data⟩ (by simp) rfl)
      obtain ⟨A9, c9, e9, t9⟩ : SP.holds (.pres 2 smallT) (a.tmps.getD 102 undef) w2 := (hpre ⟨20, .data⟩ (by simp) rfl)
      exact wpOpIn_yes rfl rfl (yielded_of (g := 18) (t := 100) (b := true) rfl rfl (by omega) (hpre ⟨18, .guard⟩ (by simp) rfl)) (wpW_call (R := fun v w' => v = .bool true ∧ Below w2.heap.size w2 w') (r_call2 (.tmp 101) (.tmp 102) _ _ _ rfl e8 e9 call26) ((same26_yes w2 _ _ 2 smallT t8 t9).mono fun e w' ⟨he, hb⟩ => ⟨_, he, rfl, hb⟩) (fun v w'' h => ⟨v, rfl, hS.trans (h.2.mono hS.size), h.2, h.1⟩))
    · obtain rfl := Option.some.inj ho; exact wpOpIn_of rfl rfl (wpW_val (r_pick (.tmp 100) (.tmp 103) (.const (.bool false)) true rfl (hpre ⟨18, .data⟩ (by simp) rfl) (by exact (hpre ⟨21, .data⟩ (by simp) rfl))) ⟨_, rfl, hS, Below.refl _ _, rfl⟩)
  · intro ls a w2 hS hlst hsame hsl
    have h104 : a.tmps.getD 104 undef = .bool true := hsl 22 (by omega)
    obtain ⟨vs, hvs, hfr⟩ := hsame.frameV 152 rfl
    refine wpOpIn_of (o := ⟨some 12, .assign (.tmp 104), 4, "law.go:75", _, none⟩) rfl rfl (wpW_val (r_assign (.tmp 104) rfl h104) ?_)
    have HB20 := Lib.hid (HBN.out.trans (hS.mono HBN.out.size))
    have HX20 := Lib.hid ((hS.block _ (Array.getElem?_eq_some_iff.1 HX10.out).1).trans HX10.out)
    clear hsl hsame h104 hS hlst hvs HX10 HX11 HT10 HT11 HBN
    subst hfr
    dsimp only
    simp only [Act.put, List.range, List.range.loop, List.map_cons, List.map_nil, List.any_cons, List.any_nil, Nat.reduceAdd, Nat.reduceBEq, Bool.or_false, Bool.or_true, Bool.false_eq_true, if_true, if_false, List.getD_cons_zero, List.getD_cons_succ, List.setIfInBounds_toArray, List.set_cons_succ, List.set_cons_zero]
    have hl1 := HL.out w2 [0, 0]
    have hl2 : Below (w2.alloc (.cells (ints [0, 0]).toArray 3)).heap.size (w2.alloc (.cells (ints [0, 0]).toArray 3)) ((w2.alloc (.cells (ints [0, 0]).toArray 3)).alloc (.cells #[.slice (some ⟨w2.heap.size, 0, none⟩) 2 2] 24)) := (Below.refl _ _).alloc (Nat.le_refl _) _
    have hl3 := hl1.trans (hl2.mono hl1.size)
    have HL3 := Lib.hid hl3
    have HTB : Hid (Tab ((w2.alloc (.cells (ints [0, 0]).toArray 3)).alloc (.cells #[.slice (some ⟨w2.heap.size, 0, none⟩) 2 2] 24)) (.slice (some ⟨w2.heap.size + 1, 0, none⟩) 1 1) [[0, 0]]) := Lib.hid (by
      have := tab_one (ints_new (w := w2) (xs := [0, 0]) (by decide) rfl (by simp) (n := 2))
      rwa [World.size_alloc] at this)
    clear hl1 hl2 hl3
    go_wp2_with ((with_reducible refine wpList_sel 106 ?_); refine wpList_val rfl (r_build40m (.const (.int .i64 1)) 1 rfl rfl) ?_)
    refine (H24.out _ _ _ 1 [] [[0, 0]] 1 [] known_r tab_nil HTB.out).mono ?_
    rintro e w21 ⟨⟨A21, c21, rfl, HT21⟩, hb⟩
    have hbb := HL3.out.trans (hb.mono HL3.out.size)
    have HB21 := Lib.hid (HB20.out.trans (hbb.mono HB20.out.size))
    have HX21 := Lib.hid ((hbb.block _ (Array.getElem?_eq_some_iff.1 HX20.out).1).trans HX20.out)
    have HX22 := Lib.hid (setRow_heap w21 w13.heap.size _ #[.int .i64 1, .slice A21 ([] : List (List Int)).length c21] 40 (0, 0) HX21.out)
    have HB22 := Lib.hid (below_setRow HB21.out HL14.out #[.int .i64 1, .slice A21 ([] : List (List Int)).length c21])
    clear hb hbb HX20 HB20 HTB HL3 HB21
    go_wp2_with ((with_reducible refine wpList_selStore 40 10 110 ?_); refine wpList_skip rfl (r_store40 (.tmp 10) (.tmp 110) rfl w13.heap.size _ #[.int .i64 1, .slice A21 ([] : List (List Int)).length c21] rfl rfl HX21.out rfl rfl (one40 _ _ _ _)) ?_)
    generalize hw22 : w21.setRow w13.heap.size #[.int .i64 1, .slice A21 ([] : List (List Int)).length c21] = w22 at *
    have hsz : w22.heap.size = w21.heap.size := by rw [← hw22, World.setRow]; simp
    clear hw22 HX21
    have h1 := ints_new (w := w22) (xs := [1, 1]) (by decide) rfl (by simp) (n := 2)
    have hb1 := HL.out (w22.alloc (.cells (ints [1, 1]).toArray 3)) [0, 0]
    have h2 := ints_new (w := w22.alloc (.cells (ints [1, 1]).toArray 3)) (xs := [0, 0]) (by decide) rfl (by simp) (n := 2)
    have h3 := tab_two _ _ _ _ _ (h1.below hb1) h2 (e := 24)
    have hb0 : Below w22.heap.size w22 (((w22.alloc (.cells (ints [1, 1]).toArray 3)).alloc (.cells (ints [0, 0]).toArray 3)).alloc (.cells #[.slice (some ⟨w22.heap.size, 0, none⟩) 2 2, .slice (some ⟨(w22.alloc (.cells (ints [1, 1]).toArray 3)).heap.size, 0, none⟩) 2 2] 24)) :=
      (((Below.refl _ _).alloc (Nat.le_refl _) _).alloc (by simp) _).alloc (by simp; omega) _
    simp only [World.size_alloc, hsz] at h3 hb0
    have HC := Lib.hid ((count16_any _ _ 1 [[1, 1], [0, 0]] h3).mono fun e w' (⟨a, b⟩ : _ ∧ _) => by rw [known_n.1, known_n.2] at a; exact (⟨a, b⟩ : e = .returned (.tuple #[.int .i64 1, .int .i64 0]) ∧ _))
    have HL3 := Lib.hid hb0
    have HSZ := Lib.hid hsz
    clear h1 hb1 h2 h3 hb0 hsz
    go_wp2_with fail
    refine HC.out.mono ?_
    rintro e w23 ⟨rfl, hb⟩
    have hbb := HL3.out.trans (hb.mono (by have := HL3.out.size; rw [HSZ.out] at this; exact this))
    have HB23 := Lib.hid (HB22.out.trans (hbb.mono (by rw [← HSZ.out]; exact HB22.out.size)))
    have HX23 := Lib.hid ((hbb.block _ (by rw [← HSZ.out]; exact (Array.getElem?_eq_some_iff.1 HX22.out).1)).trans HX22.out)
    clear hb hbb HC HL3 HB22 HX22
    go_wp2_with fail
    refine (half27_any _).mono ?_
    rintro e w24 ⟨⟨u24, rfl, hu⟩, hb⟩
    obtain ⟨A24, c24, rfl⟩ := Tab.form hu
    have HU24 := Lib.hid hu
    have HX24 := Lib.hid ((hb.block _ (Array.getElem?_eq_some_iff.1 HX23.out).1).trans HX23.out)
    have HB24 := Lib.hid (HB23.out.trans (hb.mono HB23.out.size))
    clear hu hb HB23 HX23
    go_wp2_with fail
    refine (H20.out _ _ _ 2 [] [] 2 known_g HU24.out intsAt_nil).mono ?_
    rintro e w25 ⟨⟨A25, c25, rfl, -⟩, hb⟩
    have HX25 := Lib.hid ((hb.block _ (Array.getElem?_eq_some_iff.1 HX24.out).1).trans HX24.out)
    have HB25 := Lib.hid (HB24.out.trans (hb.mono HB24.out.size))
    clear hb HB24 HX24 HU24
    go_wp2_with fail
    refine (awake15_any _).mono ?_
    rintro e w26 ⟨rfl, hb⟩
    have HX26 := Lib.hid ((hb.block _ (Array.getElem?_eq_some_iff.1 HX25.out).1).trans HX25.out)
    have HB26 := Lib.hid (HB25.out.trans (hb.mono HB25.out.size))
    clear hb HB25 HX25
    go_wp2_with (first
      | ((with_reducible refine wpList_sel 136 ?_); refine wpList_valG (by rfl) (r_loadAt 40 (.tmp 10) _ _ rfl rfl (load40 HX26.out)) ?_)
      | ((with_reducible refine wpList_sel 137 ?_); refine wpList_valG (by rfl) (r_build40m (.const (.int .i64 1)) 1 rfl rfl) ?_)
      | (go_at_call 26; (refine (same26_yes _ _ _ 1 [] (tab_empty HT21.out) tab_nil).mono ?_); rintro e w27 ⟨rfl, hb⟩; have HB27 := Lib.hid (HB26.out.trans (hb.mono HB26.out.size)); clear hb))
    go_ret
    exact ⟨rfl, HB27.out⟩
end Go.Proofs
