/- The reference's Enumerate; plain; the reference's Images; Words that numbers select: Turn, Letter, WordOf; WordsOf; power; the words of a law. -/
import Derived.Test.YtmpnengjboabcaaGreatRgCS21
import Derived.Test.YtmpnengjboabcaaGreatRgCS5
import Derived.Test.YtmpnengjboabcaaGreatRgCS11
import Derived.Test.YtmpnengjboabcaaGreatRgCS7
import Derived.Test.YtmpnengjboabcaaGreatRgCS8
namespace Go.Proofs
open Go.RowKit Go.Shelf Go.Proofs.Ct Go.Maps
structure NumC (q : Nat) (w : World) (a b c : Int) : Prop where
  c1 : w.cell? ⟨q, 0, none⟩ = some (.int .i64 a)
  c2 : w.cell? ⟨q, 1, none⟩ = some (.int .i64 b)
  c3 : w.cell? ⟨q, 2, none⟩ = some (.int .i64 c)
  f1 : w.frozen? ⟨q, 0, none⟩ = false
  f2 : w.frozen? ⟨q, 1, none⟩ = false
  f3 : w.frozen? ⟨q, 2, none⟩ = false
theorem NumC.below {q : Nat} {w w' : World} {a b c : Int} (h : NumC q w a b c) {B : Nat} (hq : q < B) (hb : Below B w w') : NumC q w' a b c :=
  ⟨(hb.cell (p := ⟨q, 0, none⟩) hq).trans h.c1, (hb.cell (p := ⟨q, 1, none⟩) hq).trans h.c2, (hb.cell (p := ⟨q, 2, none⟩) hq).trans h.c3, (hb.frozen (p := ⟨q, 0, none⟩) hq).trans h.f1, (hb.frozen (p := ⟨q, 1, none⟩) hq).trans h.f2, (hb.frozen (p := ⟨q, 2, none⟩) hq).trans h.f3⟩
def setN (q : Nat) (w : World) (a b c : Int) : World := ((w.setCell ⟨q, 0, none⟩ (.int .i64 a)).setCell ⟨q, 1, none⟩ (.int .i64 b)).setCell ⟨q, 2, none⟩ (.int .i64 c)
theorem NumC.set {q : Nat} {w : World} {a b c : Int} (h : NumC q w a b c) (a' b' c' : Int) : NumC q (setN q w a' b' c') a' b' c' := by
  obtain ⟨c1, c2, c3, f1, f2, f3⟩ := h
  unfold setN
  refine ⟨(cell_set (cell_set (cell_set c1 _) _) _).trans ?_, (cell_set (cell_set (cell_set c2 _) _) _).trans ?_, (cell_set (cell_set (cell_set c3 _) _) _).trans ?_, ?_, ?_, ?_⟩ <;> simp [f1, f2, f3]
theorem setN_below {B q : Nat} {w w' : World} (h : Below B w w') (hq : B ≤ q) (a b c : Int) : Below B w (setN q w' a b c) :=
  ((h.setCell (p := ⟨q, 0, none⟩) hq _).setCell (p := ⟨q, 1, none⟩) hq _).setCell (p := ⟨q, 2, none⟩) hq _
theorem setN_tabB {B q : Nat} {w : World} {u : Value} {l : List (List Int)} (h : TabB B w u l) (h1 : q < B) (a b c : Int) : TabB B (setN q w a b c) u l :=
  ((h.setCell (p := ⟨q, 0, none⟩) h1 _).setCell (p := ⟨q, 1, none⟩) h1 _).setCell (p := ⟨q, 2, none⟩) h1 _
theorem res33 {q : Nat} {w : World} {v : Value} {a b c e : Int} (h : NumC q w a b c) (tmps : Array Value) (h6 : tmps[6]? = some v) (h7 : tmps[7]? = some (.pointer (some ⟨q, 0, none⟩))) (h8 : tmps[8]? = some (.int .i64 e)) :
    (results Tryz.f23 tmps).run Tryz.prog w = .ok (.tuple #[v, .agg #[.int .i64 a, .int .i64 b, .int .i64 c], .int .i64 e]) w := by
  obtain ⟨c1, c2, c3, -, -, -⟩ := h
  simp [results, Tryz.results23, go_sem, h6, h7, h8, asAddr, c1, c2, c3]
theorem givenE_good {g : Int} {rels sub : List W} {limit : Int} (h : givenE g rels sub limit = 0) : presE g rels = 0 ∧ badArgs g.toNat sub limit = false := by
  unfold givenE at h
  split at h
  · rename_i h1; exact absurd h h1
  · rename_i h1
    split at h
    · cases h
    · rename_i h2
      exact ⟨Decidable.byContradiction h1, by simpa using h2⟩
theorem enumE_given {g : Int} {rels sub : List W} {limit : Int} (h : givenE g rels sub limit ≠ 0) : enumE g rels sub limit = ([], (0, 0), givenE g rels sub limit) := by
  unfold givenE at h ⊢
  unfold enumE
  split
  · rfl
  · rename_i h1
    rw [if_neg h1] at h
    split
    · rfl
    · rename_i h2
      rw [if_neg h2] at h
      exact absurd rfl h
theorem bad_lim {g : Nat} {sub : List W} {limit : Int} (h : badArgs g sub limit = false) : 1 ≤ limit ∧ limit ≤ 20000 ∧ (sub.any fun w => w.any (letBad g)) = false := by
  unfold badArgs at h
  simp only [Bool.or_eq_false_iff, decide_eq_false_iff_not] at h
  obtain ⟨⟨⟨⟨h1, h2⟩, h3⟩, h4⟩, h5⟩ := h
  exact ⟨by omega, by omega, h3⟩
set_option maxRecDepth 100000 in
set_option maxHeartbeats 4000000 in
theorem enum33_B (w : World) (vr vs : Value) (g : Int) (rels sub : List W) (limit : Int) (hR : Tab w vr rels) (hS : Tab w vs sub) (hsm : ∀ j, (sub.getD j []).length ≤ 100000) (hsm2 : ∀ j, (rels.getD j []).length ≤ 100000) (hsl : sub.length ≤ 1000000) : Calls Tryz.prog 23 #[.agg #[.int .i64 g, vr], vs, .int .i64 limit] w (EnumPostB g rels sub limit w) := by
  obtain ⟨Ar, cr, rfl⟩ := Tab.form hR
  obtain ⟨As, cs, rfl⟩ := Tab.form hS
  have HP : Hid (∀ W, W = (w.alloc (.cells #[.int .i64 g, .slice Ar rels.length cr] 26)).alloc (.cells #[.int .i64 0, .int .i64 0, .int .i64 0] 41) → Below w.heap.size w W ∧ W.heap[w.heap.size]? = some (.cells #[.int .i64 g, .slice Ar rels.length cr] 26 (0, 0)) ∧ NumC (w.heap.size + 1) W 0 0 0 ∧ W.heap.size = w.heap.size + 2) := Lib.hid fun W h => by
    subst h
    refine ⟨((Below.refl _ _).alloc (Nat.le_refl _) _).alloc (by simp) _, (Below.heap_alloc _ _ _ (by simp)).trans (heap_alloc_new w _), ?_, by simp⟩
    constructor <;> simp [go_sem]
  have HRR := Lib.hid hR
  have HSS := Lib.hid hS
  have H87 : Hid (∀ W, Tab W (.slice Ar rels.length cr) rels → Tab W (.slice As sub.length cs) sub → Calls Tryz.prog 47 #[.agg #[.int .i64 g, .slice Ar rels.length cr], .slice As sub.length cs, .int .i64 limit] W fun e w' => e = .returned (.int .i64 (givenE g rels sub limit)) ∧ Below W.heap.size W w') := Lib.hid fun W h1 h2 => given87_any W _ _ g rels sub limit h1 h2 hsm hsm2 hsl
  clear hR hS
  go_enter Tryz.func23, Tryz.ntmps23
  go_wp2_with fail
  generalize hw0 : (w.alloc (.cells #[.int .i64 g, .slice Ar rels.length cr] 26)).alloc (.cells #[.int .i64 0, .int .i64 0, .int .i64 0] 41) = w0 at *
  obtain ⟨hb0, hbx, hnc, hsz⟩ := HP.out w0 rfl
  have HB0 := Lib.hid hb0
  have HSZ := Lib.hid hsz
  have HBX : Hid (∀ W, Below w0.heap.size w0 W → W.heap[w.heap.size]? = some (.cells #[.int .i64 g, .slice Ar rels.length cr] 26 (0, 0)) ∧ NumC (w.heap.size + 1) W 0 0 0) := Lib.hid fun W h => ⟨(h.block _ (by omega)).trans hbx, hnc.below (by omega) h⟩
  clear hw0 hb0 hbx hnc hsz HP
  have H87' := Lib.hid (H87.out w0 (kept_tab.below HRR.out HB0.out) (kept_tab.below HSS.out HB0.out))
  clear H87
  by_cases he : givenE g rels sub limit = 0
  · have hgood := givenE_good he
    rw [he] at H87'
    obtain ⟨gn, rfl, hg1, hg16, hrl, hrg⟩ := presE_good hgood.1
    rw [Int.toNat_natCast] at hgood
    obtain ⟨hl1, hl2, hsb⟩ := bad_lim hgood.2
    obtain ⟨lim, rfl⟩ : ∃ lim : Nat, limit = (lim : Int) := ⟨limit.toNat, by omega⟩
    have HGD := Lib.hid hgood
    have HRG := Lib.hid hrg
    have HSG := Lib.hid (subs_good hsb)
    have H88 := Lib.hid fun W => begin88_any gn lim hg16 hg1 W
    have HRUN : Hid (∀ W2 W3, Below w.heap.size w W2 → Kf W2.heap.size W2 W3 → StR W2.heap.size W2.heap.size lim W3 (startS (2 * gn)) → Calls Tryz.prog 49 #[.pointer (some ⟨W2.heap.size, 0, none⟩), .agg #[.int .i64 (gn : Int), .slice Ar rels.length cr], .slice As sub.length cs] W3 fun e w' => ((∃ s', runS (2 * gn) lim rels sub = some s' ∧ e = .returned (.bool true) ∧ StR W2.heap.size W2.heap.size lim w' s') ∨ (runS (2 * gn) lim rels sub = none ∧ e = .returned (.bool false))) ∧ Below W2.heap.size W3 w') := Lib.hid fun W2 W3 hb hk hs => by
      exact run89_any gn (2 * gn) W2.heap.size W2.heap.size lim rfl hg16 hg1 W3 _ _ rels sub hs hk.size (by omega) (by omega) (Words.of (kept_tab.below HRR.out hb) hk.1) (Words.of (kept_tab.below HSS.out hb) hk.1) (getD_all (fun j hj => (HRG.out j hj).1) LOk.nil) (getD_all (fun j hj => HSG.out j hj) LOk.nil)
    clear he hgood hrg hsb
    cases hrun : runS (2 * gn) lim rels sub with
    | none =>
      have HEN := Lib.hid (enumE_full HGD.out.1 HGD.out.2 hrun)
      rw [hrun] at HRUN
      clear hrun
      go_wp2_with (first
        | (go_at_call 47; (with_reducible refine H87'.out.mono ?_); rintro e w1 ⟨rfl, hb⟩
           have HB1 := Lib.hid hb
           have HW1 := Lib.hid (HB0.out.trans (hb.mono HB0.out.size))
           have hcg := (cell_of2 (HBX.out _ hb).1).1
           clear hb)
        | (go_at_call 48; (with_reducible refine (H88.out w1).mono ?_); rintro e w2 ⟨rfl, hs2, hk2⟩
           have HS2 := Lib.hid hs2
           have HK2 := Lib.hid hk2
           have HB2 := Lib.hid (HB1.out.trans (hk2.1.mono HB1.out.size))
           have HW2 := Lib.hid (HW1.out.trans (hk2.1.mono HW1.out.size))
           have hbx2 := (HBX.out _ (HB1.out.trans (hk2.1.mono HB1.out.size))).1
           have HL2 := Lib.hid (load40 hbx2)
           clear hs2 hk2 hbx2 hcg)
        | ((with_reducible refine wpList_sel 24 ?_); refine wpList_val rfl (r_loadAt 26 (.tmp 3) _ _ rfl rfl HL2.out) ?_)
        | (go_at_call 49; (refine ((HRUN.out w1 w2 HW1.out HK2.out HS2.out).mono (R' := fun e w' => e = .returned (.bool false) ∧ Below w1.heap.size w2 w') fun e w' ⟨h, hb⟩ => ⟨by
             rcases h with ⟨s', h, -⟩ | ⟨-, h⟩
             · cases h
             · exact h, hb⟩).mono ?_); rintro e w3 ⟨rfl, hb⟩
           have HB3 := Lib.hid (HB2.out.trans (hb.mono HB1.out.size))
           have HW3 := Lib.hid (HW2.out.trans (hb.mono HW1.out.size))
           have hnc3 := (HBX.out _ (HB2.out.trans (hb.mono HB1.out.size))).2
           have HNC := Lib.hid (hnc3.set 0 0 0)
           obtain ⟨c1, c2, c3, f1, f2, f3⟩ := hnc3
           clear hb))
      refine bodyPost_ret (res33 (q := w.heap.size + 1) HNC.out _ rfl rfl rfl) rfl ?_
      exact EnumPostB.err HEN.out (setN_below HW3.out (by omega) _ _ _)
    | some s' =>
      have HEN := Lib.hid (enumE_some HGD.out.1 HGD.out.2 hrun)
      have hgc := run_good (lim := lim) (g := gn) (by omega) (fun j hj => (HRG.out j hj).1) (fun j hj => HSG.out j hj) hrun
      have H90 : Hid (∀ W b, StR b b lim W s' → Calls Tryz.prog 50 #[.pointer (some ⟨b, 0, none⟩), .int .i64 (gn : Int)] W fun e w' => ∃ u, e = .returned u ∧ TabB W.heap.size w' u (stdE gn (tabS s') 0).1 ∧ Below W.heap.size W w') := Lib.hid fun W b h => result90_any gn (2 * gn) b b lim rfl hg16 hg1 W s' h hgc.1 hgc.2 (by omega)
      rw [hrun] at HRUN
      clear hrun hgc
      go_wp2_with (first
        | (go_at_call 47; (with_reducible refine H87'.out.mono ?_); rintro e w1 ⟨rfl, hb⟩
           have HB1 := Lib.hid hb
           have HW1 := Lib.hid (HB0.out.trans (hb.mono HB0.out.size))
           have hcg := (cell_of2 (HBX.out _ hb).1).1
           clear hb)
        | (go_at_call 48; (with_reducible refine (H88.out w1).mono ?_); rintro e w2 ⟨rfl, hs2, hk2⟩
           have HS2 := Lib.hid hs2
           have HK2 := Lib.hid hk2
           have HB2 := Lib.hid (HB1.out.trans (hk2.1.mono HB1.out.size))
           have HW2 := Lib.hid (HW1.out.trans (hk2.1.mono HW1.out.size))
           have hbx2 := (HBX.out _ (HB1.out.trans (hk2.1.mono HB1.out.size))).1
           have HL2 := Lib.hid (load40 hbx2)
           clear hs2 hk2 hbx2 hcg)
        | ((with_reducible refine wpList_sel 24 ?_); refine wpList_val rfl (r_loadAt 26 (.tmp 3) _ _ rfl rfl HL2.out) ?_)
        | (go_at_call 49; (refine ((HRUN.out w1 w2 HW1.out HK2.out HS2.out).mono (R' := fun e w' => e = .returned (.bool true) ∧ StR w1.heap.size w1.heap.size lim w' s' ∧ Below w1.heap.size w2 w') fun e w' ⟨h, hb⟩ => by
             rcases h with ⟨s'', h1, h2, h3⟩ | ⟨h, -⟩
             · cases h1; exact ⟨h2, h3, hb⟩
             · cases h).mono ?_); rintro e w3 ⟨rfl, hs3, hb⟩
           have HB3 := Lib.hid (HB2.out.trans (hb.mono HB1.out.size))
           have HW3 := Lib.hid (HW2.out.trans (hb.mono HW1.out.size))
           have HS3 := Lib.hid hs3
           have hcg := (cell_of2 (HBX.out _ (HB2.out.trans (hb.mono HB1.out.size))).1).1
           obtain ⟨Ag, cg, r2, -, r6⟩ := hs3.tops
           clear hb hs3))
      have HSX : Hid (∀ W, Below w3.heap.size w3 W → StR w1.heap.size w1.heap.size lim W s' ∧ W.cell? ⟨w1.heap.size, 0, none⟩ = some (.slice Ag s'.t.length cg) ∧ W.cell? ⟨w1.heap.size, 5, none⟩ = some (.int .i64 s'.most)) := Lib.hid fun W h => ⟨HS3.out.below h, (h.cell (p := ⟨w1.heap.size, 0, none⟩) (World.block_lt_of_cell? _ _ r2)).trans r2, (h.cell (p := ⟨w1.heap.size, 5, none⟩) (World.block_lt_of_cell? _ _ r6)).trans r6⟩
      generalize hQ : w.heap.size = Q at *
      generalize hQ2 : w1.heap.size = Q2 at *
      have HQ := Lib.hid hQ
      have HQ2 := Lib.hid hQ2
      clear hQ hQ2
      have hl0 : (0 : Int) ≤ (s'.t.length : Int) := Int.natCast_nonneg _
      have HNE : Hid (Q + 1 ≠ Q2) := Lib.hid (by
        have h1 := HB1.out.size
        have h2 := HSZ.out
        have h3 := HQ2.out
        omega)
      go_region_held3 (fun w' => w'.cell? ⟨Q, 0, none⟩ = some (.int .i64 (gn : Int)) ∧ w'.cell? ⟨Q2, 0, none⟩ = some (.slice Ag s'.t.length cg) ∧ w'.cell? ⟨Q2, 5, none⟩ = some (.int .i64 s'.most)) (first | (with_reducible exact HSQ.out) | go_keep)
        (first
          | (go_at_call 50; (refine (H90.out _ _ (HSX.out _ (Below.refl _ w3).drew).1).mono ?_); rintro e w4 ⟨u, rfl, ht4, hb⟩
             have hb4 : Below w3.heap.size w3 w4 := (Below.refl _ w3).drew.trans hb
             have HB4 := Lib.hid hb4
             have HT4 := Lib.hid ht4
             obtain ⟨-, r24, r64⟩ := HSX.out _ hb4
             obtain ⟨hbx4, hnc4⟩ := HBX.out _ (HB3.out.trans (hb4.mono HB3.out.size))
             have hcg4 := (cell_of2 hbx4).1
             have HNC := Lib.hid (hnc4.set s'.t.length s'.most 0)
             have HSQ : Hid ((((w4.setCell ⟨Q + 1, 0, none⟩ (.int .i64 (s'.t.length : Int))).setCell ⟨Q + 1, 1, none⟩ (.int .i64 s'.most)).setCell ⟨Q + 1, 2, none⟩ (.int .i64 0)).cell? ⟨Q, 0, none⟩ = some (.int .i64 (gn : Int)) ∧
                 (((w4.setCell ⟨Q + 1, 0, none⟩ (.int .i64 (s'.t.length : Int))).setCell ⟨Q + 1, 1, none⟩ (.int .i64 s'.most)).setCell ⟨Q + 1, 2, none⟩ (.int .i64 0)).cell? ⟨Q2, 0, none⟩ = some (.slice Ag s'.t.length cg) ∧
                 (((w4.setCell ⟨Q + 1, 0, none⟩ (.int .i64 (s'.t.length : Int))).setCell ⟨Q + 1, 1, none⟩ (.int .i64 s'.most)).setCell ⟨Q + 1, 2, none⟩ (.int .i64 0)).cell? ⟨Q2, 5, none⟩ = some (.int .i64 s'.most)) := Lib.hid
               ⟨(cell_set (cell_set (cell_set hcg4 _) _) _).trans (by simp), (cell_set (cell_set (cell_set r24 _) _) _).trans (by simp [HNE.out]), (cell_set (cell_set (cell_set r64 _) _) _).trans (by simp)⟩
             obtain ⟨c1, c2, c3, f1, f2, f3⟩ := hnc4
             clear hb hb4 ht4 hbx4))
      try go_wp2_with fail
      refine bodyPost_ret (res33 (q := Q + 1) HNC.out _ rfl rfl rfl) rfl ?_
      unfold EnumPostB
      rw [HEN.out]
      have hq3 : Q + 1 < w3.heap.size := by
        have h1 := HB3.out.size
        have h2 := HSZ.out
        omega
      have hW4 : Below Q w w4 := HW3.out.trans (HB4.out.mono (by have := HW3.out.size; have := HQ.out; omega))
      rw [HQ.out]
      have hQ3 : Q ≤ w3.heap.size := by omega
      exact ⟨⟨_, rfl, (setN_tabB HT4.out hq3 s'.t.length s'.most 0).low hQ3⟩, setN_below hW4 (by omega) _ _ _⟩
  · have HE : Hid (enumE g rels sub limit = ([], (0, 0), givenE g rels sub limit)) := Lib.hid (enumE_given he)
    have d1 : (givenE g rels sub limit != 0) = true := by simpa using he
    generalize givenE g rels sub limit = x at *
    clear he
    go_wp2_with (first
      | (go_at_call 47; (with_reducible refine H87'.out.mono ?_); rintro e w1 ⟨rfl, hb⟩
         have HB1 := Lib.hid hb
         have hnc := (HBX.out _ hb).2
         have HNC := Lib.hid (hnc.set 0 0 0)
         obtain ⟨c1, c2, c3, f1, f2, f3⟩ := hnc
         clear hb))
    refine bodyPost_ret (res33 (q := w.heap.size + 1) HNC.out _ rfl rfl rfl) rfl ?_
    exact EnumPostB.err HE.out (setN_below (HB0.out.trans (HB1.out.mono HB0.out.size)) (by omega) _ _ _)
end Go.Proofs
namespace Go.Proofs
open Go.RowKit Go.Shelf Go.Proofs.Ct Go.Maps
theorem take_snoc {α : Type} {d : α} {l : List α} {k : Nat} (h : k < l.length) : l.take (k + 1) = l.take k ++ [l.getD k d] := by
  rw [List.take_add_one, List.getD_eq_getElem?_getD, List.getElem?_eq_getElem h]; rfl
end Go.Proofs
namespace Go.Proofs
open Go.RowKit Go.Shelf Go.Proofs.Ct Go.Maps
theorem turn59_any (w : World) (x : Int) (n : Nat) (hn : 1 ≤ n ∧ n ≤ 1000000) : Calls Tryz.prog 21 #[.int .i64 x, .int .i64 (n : Int)] w fun e w' => e = .returned (.int .i64 (x % (n : Int))) ∧ w' = w := by
  have hk0 : (0 : Int) < (n : Int) := by omega
  have hk1 : (n : Int) ≤ 1000000 := by omega
  have h3 : x.tmod n < n := Int.tmod_lt_of_pos _ hk0
  have h4 : -(n : Int) < x.tmod n := by
    have := Int.lt_tmod_of_pos x hk0
    omega
  have h5 : (x.tmod n + n).tmod n = x % n := by
    rw [Int.tmod_eq_emod_of_nonneg (by omega), Int.add_emod_right, Int.tmod_eq_emod]
    split <;> simp
  have H5 := Lib.hid h5
  clear h5
  generalize hm : x.tmod (n : Int) = m at *
  have hne : (n : Int) ≠ 0 := by omega
  have h6 : (m + n).tmod n < n := Int.tmod_lt_of_pos _ hk0
  have h7 : 0 ≤ (m + n).tmod (n : Int) := by rw [H5.out]; exact Int.emod_nonneg _ hne
  generalize hz : (m + (n : Int)).tmod (n : Int) = z at *
  go_enter Tryz.func21, Tryz.ntmps21
  go_wp2_with fail
  go_ret
  exact ⟨ret_int (by first | exact H5.out | (rw [← H5.out])), (by first | trivial | rfl)⟩
theorem letter61_any (w : World) (c : Nat) (hc : c ≤ 1000000) : Calls Tryz.prog 94 #[.int .i64 (c : Int)] w fun e w' => e = .returned (.int .i64 (letter c)) ∧ w' = w := by
  have h0 : (0 : Int) ≤ (c : Int) := Int.natCast_nonneg _
  have h1 : (c : Int) ≤ 1000000 := by omega
  have hm : (c : Int).tmod 2 = (c : Int) % 2 := Int.tmod_eq_emod_of_nonneg h0
  have hd : (c : Int).tdiv 2 = (c : Int) / 2 := Int.tdiv_eq_ediv_of_nonneg h0
  have HL : Hid (letter c = if (c : Int) % 2 = 0 then (c : Int) / 2 + 1 else -((c : Int) / 2 + 1)) := Lib.hid (by
    unfold letter
    split <;> split <;> omega)
  generalize hy : (c : Int) / 2 = y at *
  have hy0 : 0 ≤ y := by omega
  have hy1 : y ≤ 1000000 := by omega
  by_cases h : (c : Int) % 2 = 0
  · have d1 : ((c : Int) % 2 == 0) = true := by simpa using h
    rw [if_pos h] at HL
    generalize (c : Int) % 2 = m at *
    generalize letter c = l at *
    clear h
    go_enter Tryz.func94, Tryz.ntmps94
    go_wp2_with fail
    go_ret
    exact ⟨ret_int (by rw [HL.out]), (by first | trivial | rfl)⟩
  · have d1 : ((c : Int) % 2 == 0) = false := by simpa using h
    rw [if_neg h] at HL
    generalize (c : Int) % 2 = m at *
    generalize letter c = l at *
    clear h
    go_enter Tryz.func94, Tryz.ntmps94
    go_wp2_with fail
    go_ret
    exact ⟨ret_int (by rw [HL.out]), (by first | trivial | rfl)⟩
def wordOf (g : Nat) (l : List Int) : List Int := l.map fun x => letter (x % ((2 * g : Nat) : Int)).toNat
theorem length_wordOf (g : Nat) (l : List Int) : (wordOf g l).length = l.length := by simp [wordOf]
theorem wordOf_take {g : Nat} {l : List Int} {k : Nat} (h : k < l.length) : wordOf g (l.take (k + 1)) = wordOf g (l.take k) ++ [letter (l.getD k 0 % ((2 * g : Nat) : Int)).toNat] := by
  rw [take_snoc (d := 0) h]
  simp [wordOf]
def WordPost (x : List Int) (w : World) (e : Ending) (w' : World) : Prop := ∃ A c, e = .returned (.slice A x.length c) ∧ OwnI w.heap.size w' (.slice A x.length c) x ∧ Below w.heap.size w w'
set_option maxRecDepth 100000 in
set_option maxHeartbeats 1000000 in
theorem wordOf39_any (w : World) (v : Value) (l : List Int) (g : Nat) (h : IntsAt w v l) (hg : 1 ≤ g ∧ g ≤ 1000) (hl : l.length ≤ 1000000) : Calls Tryz.prog 74 #[v, .int .i64 (g : Int)] w (WordPost (wordOf g l) w) := by
  obtain ⟨A, c, rfl, h1, h2, h3⟩ := h.open_
  have HL := Lib.hid h3
  have HF := Lib.hid h.2
  have h0 : OwnI w.heap.size w (.slice none 0 0) [] := World.ownsRow_nil _ _ _ _
  have H0 := Lib.hid h0
  have hg0 : (0 : Int) ≤ (g : Int) := Int.natCast_nonneg _
  have hg1 : (g : Int) ≤ 1000 := by omega
  have hgg : 2 * (g : Int) = ((2 * g : Nat) : Int) := by omega
  have HGG := Lib.hid hgg
  clear h h3 h0 hgg
  unfold WordPost
  go_enter Tryz.func74, Tryz.ntmps74
  go_wp2_with fail
  go_loopw [5, 6] (fun so i wr => ∃ k : Nat, i = .int .i64 k ∧ k ≤ l.length ∧ ∃ A c, so = .slice A k c ∧ Hid (OwnI w.heap.size wr so (wordOf g (l.take k))) ∧ Hid (Below w.heap.size w wr)) (fun _ i _ => l.length - (intOf i).toNat)
  case atStart => exact ⟨0, rfl, by omega, none, 0, rfl, H0, Lib.hid (Below.refl _ _)⟩
  case round =>
    clear H0
    obtain ⟨k, rfl, hk, A2, c2, rfl, HO, HB⟩ := hrel
    have hk0 : (0 : Int) ≤ (k : Int) := Int.natCast_nonneg _
    by_cases hlt : k < l.length
    · have hlt' : (k : Int) < (l.length : Int) := by omega
      obtain ⟨b, o, rfl, hcc⟩ := HL.out (by omega)
      have hu0 := hcc k hlt
      have hu := (HB.out.cell (p := ⟨b, o + k, none⟩) (World.block_lt_of_cell? w _ hu0)).trans hu0
      have HW := Lib.hid (wordOf_take (g := g) hlt)
      have hm0 := Int.emod_nonneg (l.getD k 0) (show ((2 * g : Nat) : Int) ≠ 0 by omega)
      have hm1 := Int.emod_lt_of_pos (l.getD k 0) (show (0 : Int) < ((2 * g : Nat) : Int) by omega)
      have HT : Hid (∀ W, Calls Tryz.prog 21 #[.int .i64 (l.getD k 0), .int .i64 (2 * (g : Int))] W fun e w' => e = .returned (.int .i64 ((l.getD k 0 % ((2 * g : Nat) : Int)).toNat : Nat)) ∧ w' = W) := Lib.hid fun W => by
        rw [HGG.out, Int.toNat_of_nonneg hm0]
        exact turn59_any W _ (2 * g) (by omega)
      have HLT : Hid (∀ W, Calls Tryz.prog 94 #[.int .i64 ((l.getD k 0 % ((2 * g : Nat) : Int)).toNat : Nat)] W fun e w' => e = .returned (.int .i64 (letter (l.getD k 0 % ((2 * g : Nat) : Int)).toNat)) ∧ w' = W) := Lib.hid fun W => letter61_any W _ (by omega)
      have hol : (wordOf g (l.take k)).length = k := by rw [length_wordOf, List.length_take]; omega
      obtain ⟨A', c', w', hr, ho, hgr, hw⟩ := push_int 39 39 Tryz.underlying39 wr w.heap.size _ _ HO.out (letter (l.getD k 0 % ((2 * g : Nat) : Int)).toNat) (by omega) HB.out.size
      rw [hol] at hr ho
      rw [← HW.out] at ho
      have HR := Lib.hid hr
      have HO' := Lib.hid ho
      have HB' : Hid (Below w.heap.size w w') := Lib.hid (HB.out.grown hgr HB.out.size fun r hr => (owns_block HO.out r hr).1)
      clear hr ho hw hcc hu0 hgr HW hol hm0 hm1
      generalize (l.getD k 0 % ((2 * g : Nat) : Int)).toNat = n at *
      generalize letter n = z at *
      generalize l.getD k 0 = x at *
      go_wp2_with (first
        | (go_at_call 21; (refine (HT.out _).mono ?_); rintro e w1 ⟨rfl, rfl⟩)
        | (go_at_call 94; (refine (HLT.out _).mono ?_); rintro e w1 ⟨rfl, rfl⟩)
        | ((with_reducible refine wpList_sel 23 ?_); refine wpList_val rfl (r_app (.tmp 13) (.tmp 22) 39 rfl rfl rfl HR.out) ?_))
      go_roundw
      case rel => exact ⟨k + 1, by go_num, by omega, _, _, rfl, HO', HB'⟩
      case measure => simp [intOf]; omega
    · obtain rfl : k = l.length := by omega
      have ho := HO.out
      rw [List.take_of_length_le (Nat.le_refl _)] at ho
      have HE : Hid (∃ A c, Ending.returned (.slice A2 l.length c2) = .returned (.slice A (wordOf g l).length c) ∧ OwnI w.heap.size wr (.slice A (wordOf g l).length c) (wordOf g l) ∧ Below w.heap.size w wr) := Lib.hid ⟨A2, c2, by rw [length_wordOf], by rw [length_wordOf]; exact ho, HB.out⟩
      clear ho
      go_wp2_with fail
      go_ret
      exact HE.out
end Go.Proofs
namespace Go.Proofs
open Go.RowKit Go.Shelf Go.Proofs.Ct Go.Maps
theorem under24e : Tryz.prog.underlying 22 = some (.slice (Tryz.prog.elem 22)) := by kernel_rfl
theorem r_slice_lo {o : Oper} {a : Act} {w : World} (x y : Operand) (A : Option Addr) (n c k : Nat) (ho : o.op = .slice 22 x (some y) none none) (hx : a.eval x = .slice A n c) (hy : a.eval y = .int .i64 (k : Int)) (hk : k ≤ n) : (execOp a.eval o).run Tryz.prog w = .ok (.value (sliced A k n c 1)) w := by
  have hu := under24e
  have hs : (sizeOf (Tryz.prog.elem 22)).run Tryz.prog w = .ok 1 w := by kernel_rfl
  unfold execOp
  simp only [ho, hx, hy, Option.map_none, Option.map_some, Sem.run_bind, run_sliceAt_slice w 22 _ _ _ _ hu, run_slice_l w 22 A n c hu .i64 (k : Int) (by omega) (by omega)]
  simp [hs]
theorem r_slice_lohi {o : Oper} {a : Act} {w : World} (x y z : Operand) (A : Option Addr) (n c k h : Nat) (ho : o.op = .slice 22 x (some y) (some z) none) (hx : a.eval x = .slice A n c) (hy : a.eval y = .int .i64 (k : Int)) (hz : a.eval z = .int .i64 (h : Int)) (hk : k ≤ h) (hc : h ≤ c) : (execOp a.eval o).run Tryz.prog w = .ok (.value (sliced A k h c 1)) w := by
  have hu := under24e
  have hs : (sizeOf (Tryz.prog.elem 22)).run Tryz.prog w = .ok 1 w := by kernel_rfl
  unfold execOp
  simp only [ho, hx, hy, hz, Option.map_none, Option.map_some, Sem.run_bind, run_sliceAt_slice w 22 _ _ _ _ hu, run_slice_lh w 22 A n c hu .i64 .i64 (k : Int) (h : Int) (by omega) (by omega) (by omega)]
  simp [hs]
theorem ints_sliced {w : World} {A : Option Addr} {c k h : Nat} {l : List Int} (hI : IntsAt w (.slice A l.length c) l) (hk : k ≤ h) (hh : h ≤ l.length) : ∃ A', sliced A k h c 1 = .slice A' (h - k) (c - k) ∧ IntsAt w (.slice A' (h - k) (c - k)) ((l.take h).drop k) := by
  obtain ⟨⟨A0, n, cap, e, h1, h2, h3, h4⟩, hf⟩ := hI
  obtain ⟨rfl, rfl, rfl⟩ := Value.slice.inj e
  refine ⟨_, rfl, ⟨_, _, _, rfl, by simp [ints]; omega, by omega, by omega, fun hp => ?_⟩, fun y hy => hf y (List.mem_of_mem_take (List.mem_of_mem_drop hy))⟩
  obtain ⟨b, off, rfl, hr⟩ := h4 (by omega)
  refine ⟨b, off + k, ?_, fun j v hj => ?_⟩
  · rw [if_neg (by omega), Nat.mul_one]
    exact congrArg some (Addr.add_mid b off k)
  · have hj' : (ints l)[k + j]? = some v := by
      simp only [ints, List.getElem?_map, List.getElem?_drop, List.getElem?_take] at hj ⊢
      split at hj
      · exact hj
      · simp at hj
    have := hr (k + j) v hj'
    rwa [show off + k + j = off + (k + j) by omega]
def wordsTo (g most : Nat) : Nat → List Int → List W
  | 0, _ => []
  | _ + 1, [] => []
  | f + 1, x :: l => wordOf g (l.take (min (x % ((most + 1 : Nat) : Int)).toNat l.length)) :: wordsTo g most f (l.drop (min (x % ((most + 1 : Nat) : Int)).toNat l.length))
def wordsOf (g most : Nat) (l : List Int) : List W := wordsTo g most l.length l
theorem wordsTo_nil (g most f : Nat) : wordsTo g most f [] = [] := by cases f <;> rfl
theorem fits_wordOf {g : Nat} (hg : 1 ≤ g ∧ g ≤ 400) (l : List Int) : Fits (wordOf g l) := fun x hx => by
  obtain ⟨y, -, rfl⟩ := List.mem_map.1 hx
  have h1 := Int.emod_nonneg y (show ((2 * g : Nat) : Int) ≠ 0 by omega)
  have h2 := Int.emod_lt_of_pos y (show (0 : Int) < ((2 * g : Nat) : Int) by omega)
  have := letter_bd (c := (y % ((2 * g : Nat) : Int)).toNat) (by omega)
  omega
theorem r_min2 {o : Oper} {a : Act} {w : World} (x y : Operand) (i j z : Int) (ho : o.op = .call { callee := .builtin .min, args := #[x, y], argTypes := #[3, 3] }) (hx : a.eval x = .int .i64 i) (hy : a.eval y = .int .i64 j) (hz : z = min i j) : (execOp a.eval o).run Tryz.prog w = .ok (.value (.int .i64 z)) w := by
  have e : (if j < i then j else i) = z := by rw [hz]; split <;> omega
  unfold execOp
  simp only [ho, resolve, invoke, builtin, Sem.run_bind, Sem.run_pure, Result.andThen_ok, List.map_toArray, List.map_cons, List.map_nil, hx, hy, run_min_int2, e]
def WordsPost (x : List W) (w : World) (e : Ending) (w' : World) : Prop := (∃ A c, e = .returned (.slice A x.length c) ∧ TabB w.heap.size w' (.slice A x.length c) x) ∧ Below w.heap.size w w'
set_option maxRecDepth 100000 in
set_option maxHeartbeats 2000000 in
theorem wordsOf111_any (w : World) (v : Value) (l : List Int) (g most : Nat) (h : IntsAt w v l) (hg : 1 ≤ g ∧ g ≤ 400) (hm : most ≤ 1000) (hl : l.length ≤ 100000) : Calls Tryz.prog 46 #[v, .int .i64 (g : Int), .int .i64 (most : Int)] w (WordsPost (wordsOf g most l) w) := by
  obtain ⟨A, c, rfl, h1, h2, h3⟩ := h.open_
  have HI := Lib.hid h
  have hot := OutSt.nil 39 (Below.refl w.heap.size w)
  have HOT := Lib.hid hot
  have hg0 : (0 : Int) ≤ (g : Int) := Int.natCast_nonneg _
  have hm0 : (0 : Int) ≤ (most : Int) := Int.natCast_nonneg _
  have hm1 : (most : Int) ≤ 1000 := by omega
  have HW0 : Hid (wordsOf g most l = [] ++ wordsTo g most l.length l) := Lib.hid rfl
  unfold WordsPost
  generalize hX : wordsOf g most l = X at *
  have hln : l.length + 0 ≤ 100000 := by omega
  clear h h3 hot hX
  go_enter Tryz.func46, Tryz.ntmps46
  go_wp2_with fail
  go_loopw [0, 7] (fun sl so wr => ∃ (l2 : List Int) (f m : Nat), (∃ A c, sl = .slice A l2.length c ∧ c ≤ 9223372036854775807 ∧ Hid (IntsAt w (.slice A l2.length c) l2)) ∧ l2.length ≤ f ∧ l2.length + m ≤ 100000 ∧ ∃ F A c, so = .slice A m c ∧ ∃ rows, Hid (OutSt 39 F w wr (.slice A m c) rows) ∧ Hid (rows.length = m) ∧ Hid (X = rows ++ wordsTo g most f l2)) (fun sl _ _ => match sl with | .slice _ n _ => n | _ => 0)
  case atStart => exact ⟨l, l.length, 0, ⟨_, _, rfl, h2, HI⟩, Nat.le_refl _, hln, _, none, 0, rfl, [], HOT, Lib.hid rfl, HW0⟩
  case round =>
    clear HOT HI HW0
    obtain ⟨l2, f, m, ⟨A1, c1, rfl, hc1, HI⟩, hf, hlm, F, A2, c2, rfl, rows, HS, HRL, HX⟩ := hrel
    cases l2 with
    | nil =>
      have HE : Hid (rows = X) := Lib.hid (by have := HX.out; rw [wordsTo_nil, List.append_nil] at this; exact this.symm)
      have HT : Hid (∃ A c, Ending.returned (.slice A2 m c2) = .returned (.slice A X.length c) ∧ TabB w.heap.size wr (.slice A X.length c) X) := Lib.hid (by
        have h1 := HS.out.tabB
        rw [← HE.out, HRL.out]
        exact ⟨_, _, rfl, h1⟩)
      have HB := Lib.hid HS.out.below
      have hlen : (([] : List Int).length : Int) = 0 := rfl
      go_wp2_with fail
      go_ret
      exact ⟨HT.out, HB.out⟩
    | cons x l3 =>
      cases f with
      | zero => simp at hf
      | succ f =>
        have hTN : x % ((most + 1 : Nat) : Int) = ((x % ((most + 1 : Nat) : Int)).toNat : Int) := (Int.toNat_of_nonneg (Int.emod_nonneg x (by omega))).symm
        have hTB := Int.emod_lt_of_pos x (show (0 : Int) < ((most + 1 : Nat) : Int) by omega)
        have HTN : Hid (∀ W, Calls Tryz.prog 21 #[.int .i64 x, .int .i64 ((most : Int) + 1)] W fun e w' => e = .returned (.int .i64 ((x % ((most + 1 : Nat) : Int)).toNat : Int)) ∧ w' = W) := Lib.hid fun W => by
          rw [← hTN, show (most : Int) + 1 = ((most + 1 : Nat) : Int) by omega]
          exact turn59_any W x (most + 1) (by omega)
        have hstep : wordsTo g most (f + 1) (x :: l3) = wordOf g (l3.take (min (x % ((most + 1 : Nat) : Int)).toNat l3.length)) :: wordsTo g most f (l3.drop (min (x % ((most + 1 : Nat) : Int)).toNat l3.length)) := rfl
        have HX1 : Hid (X = rows ++ (wordOf g (l3.take (min (x % ((most + 1 : Nat) : Int)).toNat l3.length)) :: wordsTo g most f (l3.drop (min (x % ((most + 1 : Nat) : Int)).toNat l3.length)))) := Lib.hid (by rw [← hstep]; exact HX.out)
        generalize htz : (x % ((most + 1 : Nat) : Int)).toNat = tz at *
        have htm : tz ≤ most := by omega
        clear htz hTN hTB hstep HX
        have hll : (x :: l3).length = l3.length + 1 := rfl
        rw [hll] at HI hlm hf
        obtain ⟨n, hn⟩ : ∃ n, n = min tz l3.length := ⟨_, rfl⟩
        rw [← hn] at HX1
        have hnl : n ≤ l3.length := by omega
        have HN : Hid ((n : Int) = min (tz : Int) (l3.length : Int)) := Lib.hid (by omega)
        clear hn
        have hI : IntsAt w (.slice A1 (x :: l3).length c1) (x :: l3) := HI.out
        obtain ⟨A9, c9, e9, hq1, hq2, hq3⟩ := hI.open_
        obtain ⟨rfl, -, rfl⟩ := Value.slice.inj e9
        obtain ⟨b, o, rfl, hcc⟩ := hq3 (by simp)
        have hx0 := hcc 0 (by simp)
        have hxc := (HS.out.below.cell (p := ⟨b, o + 0, none⟩) (World.block_lt_of_cell? w _ hx0)).trans hx0
        have hxc' : wr.cell? ⟨b, o, none⟩ = some (.int .i64 x) := hxc
        obtain ⟨A3, hs1, hi1⟩ := ints_sliced (k := 1) (h := 1 + n) hI (by omega) (by simp; omega)
        obtain ⟨A4, hs2, hi2⟩ := ints_sliced (k := 1 + n) (h := l3.length + 1) hI (by omega) (by simp)
        have e1 : ((x :: l3).take (1 + n)).drop 1 = l3.take n := by rw [Nat.add_comm]; rfl
        have e2 : ((x :: l3).take (l3.length + 1)).drop (1 + n) = l3.drop n := by
          rw [show l3.length + 1 = (x :: l3).length from rfl, List.take_length, Nat.add_comm]; rfl
        have e3 : l3.length + 1 - (1 + n) = (l3.drop n).length := by rw [List.length_drop]; omega
        have e4 : 1 + n - 1 = n := by omega
        rw [e1] at hi1
        rw [e2, e3] at hi2
        rw [e4] at hi1 hs1
        rw [e3] at hs2
        have hcl : l3.length + 1 ≤ c1 := hq1
        have HI2 := Lib.hid hi2
        have HWO : Hid (Calls Tryz.prog 74 #[.slice A3 n (c1 - 1), .int .i64 (g : Int)] wr (WordPost (wordOf g (l3.take n)) wr)) := Lib.hid (wordOf39_any wr _ (l3.take n) g (kept_ints.below hi1 HS.out.below) (by omega) (by rw [List.length_take]; omega))
        have HFW := Lib.hid (fits_wordOf hg (l3.take n))
        have HL4 : Hid ((l3.drop n).length ≤ l3.length) := Lib.hid (by rw [List.length_drop]; omega)
        unfold WordPost at HWO
        generalize l3.take n = l5 at *
        generalize l3.drop n = l4 at *
        generalize wordOf g l5 = wd at *
        have hn0 : (0 : Int) ≤ (n : Int) := Int.natCast_nonneg _
        have hnI : (n : Int) ≤ (l3.length : Int) := by omega
        have hlI : (l3.length : Int) ≤ 100000 := by omega
        have htI : (tz : Int) ≤ 1000 := by omega
        have ht0 : (0 : Int) ≤ (tz : Int) := Int.natCast_nonneg _
        clear hcc hx0 hxc hi1 hi2 e1 e2 e4 hI e9 hq3 hll HI
        go_wp2_with (first
          | (go_at_call 21; (refine (HTN.out _).mono ?_); rintro e w1 ⟨rfl, rfl⟩)
          | ((with_reducible refine wpList_sel 21 ?_); refine wpList_val rfl (r_min2 (.tmp 17) (.tmp 20) _ _ (n : Int) rfl rfl rfl (by have := HN.out; omega)) ?_)
          | ((with_reducible refine wpList_sel 26 ?_); refine wpList_val rfl (r_slice_lohi (.tmp 23) (.const (.int .i64 1)) (.tmp 25) _ (l3.length + 1) c1 1 (1 + n) rfl rfl rfl rfl (by omega) (by omega)) ?_; rw [hs1])
          | (go_at_call 74; (refine HWO.out.mono ?_); rintro e w2 ⟨A5, c5, rfl, ho, hb⟩
             obtain ⟨A8, c8, w8, hr8, hS8⟩ := (HS.out.with_row hb ho).done (by decide) Tryz.underlying24 info25p HFW.out (by rw [HRL.out]; omega)
             rw [HRL.out] at hr8 hS8
             have HR8 := Lib.hid hr8
             have HS8 := Lib.hid hS8
             clear hr8 hS8 ho hb)
          | ((with_reducible refine wpList_sel 30 ?_); refine wpList_val rfl (r_app (.tmp 22) (.tmp 29) 24 rfl rfl rfl HR8.out) ?_)
          | ((with_reducible refine wpList_sel 34 ?_); refine wpList_val rfl (r_slice_lo (.tmp 31) (.tmp 33) _ (l3.length + 1) c1 (1 + n) rfl rfl rfl (by omega)) ?_; rw [show sliced (some ⟨b, o, none⟩) (1 + n) (l3.length + 1) c1 1 = _ from hs2]))
        go_roundw
        case rel => exact ⟨l4, f, m + 1, ⟨_, _, rfl, by omega, HI2⟩, by have := HL4.out; omega, by have := HL4.out; omega, _, _, _, rfl, rows ++ [wd], HS8, Lib.hid (by rw [List.length_append, HRL.out]; rfl), Lib.hid (by rw [HX1.out, List.append_assoc]; rfl)⟩
        case measure => have := HL4.out; simp; omega
end Go.Proofs
namespace Go.Proofs
open Go.RowKit Go.Shelf Go.Proofs.Ct Go.Maps
theorem tab_sliced {w : World} {A : Option Addr} {c h : Nat} {l : List W} (hT : Tab w (.slice A l.length c) l) (hh : h ≤ l.length) : ∃ A', sliced A 0 h c 1 = .slice A' h c ∧ Tab w (.slice A' h c) (l.take h) := by
  obtain ⟨vs, ⟨A0, n, cap, e, h1, h2, h3, h4⟩, hl, hr⟩ := hT
  obtain ⟨rfl, rfl, rfl⟩ := Value.slice.inj e
  refine ⟨_, rfl, vs.take h, ⟨_, h, c, rfl, by rw [List.length_take]; omega, by omega, h3, fun hp => ?_⟩, by rw [List.length_take, List.length_take]; omega, fun i hi => ?_⟩
  · obtain ⟨b, off, rfl, hr'⟩ := h4 (by omega)
    refine ⟨b, off, ?_, fun j v hj => hr' j v ?_⟩
    · rw [if_neg (by omega)]
      exact congrArg some (Addr.add_mid b off 0)
    · rw [List.getElem?_take] at hj
      split at hj
      · exact hj
      · cases hj
  · rw [List.length_take] at hi
    obtain ⟨u, hu, hx⟩ := hr i (by omega)
    refine ⟨u, by rw [List.getElem?_take, if_pos (by omega)]; exact hu, ?_⟩
    have : (l.take h).getD i [] = l.getD i [] := by
      rw [List.getD_eq_getElem?_getD, List.getElem?_take, if_pos (by omega), List.getD_eq_getElem?_getD]
    rw [this]
    exact hx
theorem tabB_sliced {base : Nat} {w : World} {A : Option Addr} {c h : Nat} {l : List W} (hT : TabB base w (.slice A l.length c) l) (hh : h ≤ l.length) : ∃ A', sliced A 0 h c 1 = .slice A' h c ∧ TabB base w (.slice A' h c) (l.take h) :=
  ⟨_, rfl, fun w' hw => by
    obtain ⟨A', e, ht⟩ := tab_sliced (hT w' hw) hh
    show Tab w' (sliced A 0 h c 1) _
    rw [e]
    exact ht⟩
def powW (x : List Int) : Nat → List Int
  | 0 => []
  | n + 1 => powW x n ++ x
theorem length_powW (x : List Int) : ∀ n, (powW x n).length = n * x.length
  | 0 => by simp [powW]
  | n + 1 => by rw [powW, List.length_append, length_powW x n, Nat.succ_mul]
set_option maxRecDepth 100000 in
set_option maxHeartbeats 1000000 in
theorem power112_any (w : World) (v : Value) (x : List Int) (n : Nat) (h : IntsAt w v x) (hn : n ≤ 1000) (hx : x.length ≤ 100) : Calls Tryz.prog 39 #[v, .int .i64 (n : Int)] w (WordPost (powW x n) w) := by
  obtain ⟨A, c, rfl, h1, h2, -⟩ := h.open_
  have HI := Lib.hid h
  have h0 : OwnI w.heap.size w (.slice none 0 0) [] := World.ownsRow_nil _ _ _ _
  have H0 : Hid (OwnI w.heap.size w (.slice none (powW x 0).length 0) (powW x 0)) := Lib.hid h0
  have hn0 : (0 : Int) ≤ (n : Int) := Int.natCast_nonneg _
  have hn1 : (n : Int) ≤ 1000 := by omega
  have HLN : Hid (∀ k, k ≤ n → (powW x k).length ≤ 100000) := Lib.hid fun k hk => by
    rw [length_powW]
    exact Nat.le_trans (Nat.mul_le_mul (Nat.le_trans hk hn) hx) (by omega)
  have HXL := Lib.hid hx
  clear h h0 hx
  unfold WordPost
  go_enter Tryz.func39, Tryz.ntmps39
  go_wp2_with fail
  go_loopw [5, 6] (fun so i wr => ∃ k : Nat, i = .int .i64 k ∧ k ≤ n ∧ ∃ m A c, so = .slice A m c ∧ Hid (m = (powW x k).length) ∧ Hid (OwnI w.heap.size wr (.slice A m c) (powW x k)) ∧ Hid (Below w.heap.size w wr)) (fun _ i _ => n - (intOf i).toNat)
  case atStart => exact ⟨0, rfl, by omega, 0, none, 0, rfl, Lib.hid rfl, H0, Lib.hid (Below.refl _ _)⟩
  case round =>
    clear H0
    obtain ⟨k, rfl, hk, m, A2, c2, rfl, HM, HO, HB⟩ := hrel
    have hk0 : (0 : Int) ≤ (k : Int) := Int.natCast_nonneg _
    by_cases hlt : k < n
    · have hlt' : (k : Int) < (n : Int) := by omega
      obtain ⟨A', c', w', hr, ho, hg, -⟩ := run_append_ints 39 39 Tryz.underlying39 wr w.heap.size _ _ (powW x k) x HO.out (kept_ints.below HI.out HB.out) (by have := HLN.out k hk; omega) (by have := HXL.out; omega) HB.out.size
      have HR := Lib.hid hr
      have HO' : Hid (OwnI w.heap.size w' (.slice A' (powW x k ++ x).length c') (powW x (k + 1))) := Lib.hid ho
      have HB' : Hid (Below w.heap.size w w') := Lib.hid (HB.out.grown hg HB.out.size fun r hr => (owns_block HO.out r hr).1)
      have HM' : Hid ((powW x k ++ x).length = (powW x (k + 1)).length) := Lib.hid rfl
      clear hr ho hg
      generalize (powW x k ++ x).length = m' at *
      go_wp2_with ((with_reducible refine wpList_sel 14 ?_); refine wpList_val rfl (r_app (.tmp 12) (.tmp 13) 39 rfl rfl rfl HR.out) ?_)
      go_roundw
      case rel => exact ⟨k + 1, by go_num, by omega, _, _, _, rfl, HM', HO', HB'⟩
      case measure => simp [intOf]; omega
    · obtain rfl : k = n := by omega
      have HE : Hid (∃ A c, Ending.returned (.slice A2 m c2) = .returned (.slice A (powW x k).length c) ∧ OwnI w.heap.size wr (.slice A (powW x k).length c) (powW x k) ∧ Below w.heap.size w wr) := Lib.hid ⟨A2, c2, by rw [← HM.out], by rw [← HM.out]; exact HO.out, HB.out⟩
      go_wp2_with fail
      go_ret
      exact HE.out
theorem r_slice_hi31 {o : Oper} {a : Act} {w : World} (x y : Operand) (A : Option Addr) (n c h : Nat) (ho : o.op = .slice 24 x none (some y) none) (hx : a.eval x = .slice A n c) (hy : a.eval y = .int .i64 (h : Int)) (hc : h ≤ c) : (execOp a.eval o).run Tryz.prog w = .ok (.value (sliced A 0 h c 1)) w := by
  have hu : Tryz.prog.underlying 24 = some (.slice (Tryz.prog.elem 24)) := by kernel_rfl
  have hs : (sizeOf (Tryz.prog.elem 24)).run Tryz.prog w = .ok 1 w := by kernel_rfl
  unfold execOp
  simp only [ho, hx, hy, Option.map_none, Option.map_some, Sem.run_bind, run_sliceAt_slice w 24 _ _ _ _ hu, run_slice_h w 24 A n c hu .i64 (h : Int) (by omega) (by omega)]
  simp [hs]
def lawWords (g m : Nat) (l : List Int) : List W := (wordsOf g 12 l).take m
def LawWordsPost (x : List W) (w : World) (e : Ending) (w' : World) : Prop := (∃ A c, e = .returned (.slice A x.length c) ∧ TabB w.heap.size w' (.slice A x.length c) x) ∧ Below w.heap.size w w'
theorem wordsTo_length (g most : Nat) : ∀ (f : Nat) (l : List Int), (wordsTo g most f l).length ≤ f
  | 0, _ => Nat.le_refl _
  | _ + 1, [] => Nat.zero_le _
  | f + 1, x :: l => by
    rw [wordsTo, List.length_cons]
    have := wordsTo_length g most f (l.drop (min (x % ((most + 1 : Nat) : Int)).toNat l.length))
    omega
end Go.Proofs
